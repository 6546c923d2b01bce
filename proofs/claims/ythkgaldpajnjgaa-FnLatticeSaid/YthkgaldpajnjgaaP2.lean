/-
  Contract of shortestList's offer: the best list so far lies at block p; it stays, or it becomes the list that is offered. Conditions: the lists are short and of small numbers.
-/
import Derived.Test.YthkgaldpajnjgaaP1
namespace Go.Proofs.Ythkgaldpajnjgaa
open Go.RowKit
set_option linter.unusedVariables false

/-- The list's first element that is not 0 is positive. -/
def Pos (xs : List Int) : Prop := ∃ k, k < xs.length ∧ 0 < xs.getD k 0 ∧ ∀ j, j < k → xs.getD j 0 = 0
/-- The best list has at most so great a sum of squares. -/
def Cov (best : Option (List Int)) (n : Int) : Prop := ∃ ys, best = some ys ∧ sqs ys ≤ n
theorem Cov.mono {best : Option (List Int)} {n m : Int} (h : Cov best n) (hm : n ≤ m) : Cov best m := by
  obtain ⟨ys, e, h⟩ := h; exact ⟨ys, e, by omega⟩
/-- What an offer of xs makes of the best list. -/
structure Offered (best : Option (List Int)) (xs : List Int) (best' : Option (List Int)) : Prop where
  from_ : best' = best ∨ (best' = some xs ∧ Pos xs)
  mono : ∀ n, Cov best n → Cov best' n
  cov : Pos xs → Cov best' (sqs xs)
theorem Offered.stay {best : Option (List Int)} {xs : List Int} (h : Pos xs → Cov best (sqs xs)) : Offered best xs best := ⟨.inl rfl, fun _ h => h, h⟩
theorem Offered.none {xs : List Int} (h : Pos xs) : Offered .none xs (some xs) := by
  refine ⟨.inr ⟨rfl, h⟩, fun n hn => ?_, fun _ => ⟨xs, rfl, Int.le_refl _⟩⟩
  obtain ⟨ys, e, _⟩ := hn
  cases e
theorem Offered.turn {ys xs : List Int} (h : Pos xs) (hl : sqs xs ≤ sqs ys) : Offered (some ys) xs (some xs) := ⟨.inr ⟨rfl, h⟩, fun n hn => by (obtain ⟨zs, e, hz⟩ := hn; cases e; exact ⟨xs, rfl, Int.le_trans hl hz⟩), fun _ => ⟨xs, rfl, Int.le_refl _⟩⟩
theorem FirstAt.neg {xs : List Int} {k : Nat} (h1 : k < xs.length) (h2 : xs.getD k 0 < 0) (h3 : ∀ j, j < k → xs.getD j 0 = 0) : ¬ Pos xs := by
  rintro ⟨i, i1, i2, i3⟩
  rcases Nat.lt_trichotomy i k with h | h | h
  · have := h3 i h; omega
  · subst h; omega
  · have := i3 k h; omega
theorem FirstAt.zero {xs : List Int} (h : ∀ j, j < xs.length → xs.getD j 0 = 0) : ¬ Pos xs := by
  rintro ⟨i, i1, i2, i3⟩
  have := h i i1; omega

/-- The best list so far, at block p. -/
def BsAt (w : World) (p : Nat) : Option (List Int) → Prop
  | none => Blk w p #[.slice none 0 0, .int .i64 0] 41
  | some ys => ∃ g c, Blk w p #[.slice (some ⟨g, 0, none⟩) ys.length c, .int .i64 (sqs ys)] 41 ∧ HasL (p + 1) w (some ⟨g, 0, none⟩) c ys ∧ 0 < ys.length ∧ ys.length ≤ 8
theorem FarI.ofBelow {w w' : World} {p : Nat} (h : Below w.heap.size w w') : FarI p (p + 1) w w' := ⟨h.os, h.tape, h.output, h.size, fun k hk _ => h.block k hk⟩
theorem HasL.beyond {base p : Nat} {w w' : World} {a : Option Addr} {c : Nat} {xs : List Int} (h : HasL base w a c xs) (hf : FarI p (p + 1) w w') (hp : ∀ x, a = some x → x.block ≠ p) : HasL base w' a c xs := by
  rcases h with h | ⟨g, rfl, h2, h3⟩
  · exact .inl h
  · have hg : g ≠ p := hp _ rfl
    exact .inr ⟨g, rfl, h2, row_kept h3 (hf.block g (h3.lt g rfl).2 (by omega))⟩
theorem HasL.above {p : Nat} {w w' : World} {a : Option Addr} {c : Nat} {xs : List Int} (h : HasL (p + 1) w a c xs) (hf : FarI p (p + 1) w w') : HasL (p + 1) w' a c xs := by
  rcases h with h | ⟨g, rfl, h2, h3⟩
  · exact .inl h
  · exact .inr ⟨g, rfl, h2, row_kept h3 (hf.block g (h3.lt g rfl).2 (by omega))⟩
theorem BsAt.later {w w' : World} {p : Nat} {best : Option (List Int)} (h : BsAt w p best) (hb : Below w.heap.size w w') : BsAt w' p best := by
  cases best with
  | none => exact Blk.later h hb
  | some ys =>
    obtain ⟨g, c, h1, h2, h3, h4⟩ := h
    exact ⟨g, c, h1.later hb, h2.later hb, h3, h4⟩
theorem BsAt.lt {w : World} {p : Nat} {best : Option (List Int)} (h : BsAt w p best) : p < w.heap.size := by
  cases best with
  | none => exact Blk.lt h
  | some ys => obtain ⟨g, c, h1, _⟩ := h; exact h1.lt
/-- Block p holds a list and a sum. -/
theorem BsAt.blk {w : World} {p : Nat} {best : Option (List Int)} (h : BsAt w p best) : ∃ v s, Blk w p #[v, .int .i64 s] 41 := by
  cases best with
  | none => exact ⟨_, _, h⟩
  | some ys => obtain ⟨g, c, h1, _⟩ := h; exact ⟨_, _, h1⟩
theorem BsAt.stored {w w1 : World} {p : Nat} {x0 x1 v' : Value} {xs : List Int} (hp : Blk w p #[x0, x1] 41) (ho : OwnI .i64 w.heap.size 2 w w1 v' xs) (h0 : 0 < xs.length) (h8 : xs.length ≤ 8) :
    BsAt ((w1.setCell ⟨p, 0, none⟩ v').setCell ⟨p, 1, none⟩ (.int .i64 (sqs xs))) p (some xs) ∧ FarI p (p + 1) w ((w1.setCell ⟨p, 0, none⟩ v').setCell ⟨p, 1, none⟩ (.int .i64 (sqs xs))) := by
  have hb : Below w.heap.size w w1 := ho.below
  have hlt := hp.lt
  have f1 : FarI p (p + 1) w w1 := .ofBelow hb
  have f2 : FarI p (p + 1) w1 ((w1.setCell ⟨p, 0, none⟩ v').setCell ⟨p, 1, none⟩ (.int .i64 (sqs xs))) := ((FarI.refl p (p + 1) w1).set 0 v').set 1 _
  refine ⟨?_, f1.trans f2⟩
  obtain ⟨a, c, rfl, hh⟩ := ho.hasL
  obtain ⟨g, rfl, hg, hg2, _⟩ := hh.open h0
  refine ⟨g, c, (hp.later hb).set2 _ _, ?_, h0, h8⟩
  exact (hh.mono (base' := p + 1) (by omega)).above f2
theorem clause_free {w : World} {b : Nat} {cs : Array Value} {t : TypeId} (h : Blk w b cs t) : w.frozen? ⟨b, 0, none⟩ = false ∧ w.frozen? ⟨b, 1, none⟩ = false := ⟨h.free 0, h.free 1⟩

theorem offer_any (xs : List Int) (a : Option Addr) (c base p : Nat) (best : Option (List Int)) (w : World) (h : HasL base w a c xs) (h0 : 0 < xs.length) (h8 : xs.length ≤ 8) (hs : Small xs) (hb : BsAt w p best) :
    Calls Try.prog 15 #[.pointer (some ⟨p, 0, none⟩), .slice a xs.length c] w fun e w' => e = .returned (.tuple #[]) ∧ ∃ best', BsAt w' p best' ∧ Offered best xs best' ∧ FarI p (p + 1) w w' := by
  have H := Lib.hid h
  have HS := Lib.hid fun k (hk : k < xs.length) => hs.step h8 hk
  have HB := Lib.hid hb
  have H08 := Lib.hid (And.intro h0 h8)
  have hFind := fun w h => FindFirst_any xs a c base w h (by omega)
  have hClone := fun w h => CloneI_any xs a c base w h h0 (by omega)
  have q22 : ∀ (w : World) (a : Option Addr) (n c n' c' : Nat), (binOp .eql 29 (.slice a n c) (.slice none n' c')).run Try.prog w = .ok (.bool a.isNone) w := fun w a n c n' c' => Lib.run_eql_slice_nil w _ _ a n c n' c' tI.under
  clear h hs hb
  go_enter Try.func15, Try.ntmps15
  go_wp2
  go_loop [4, 6, 10] (fun s _ i => ∃ k : Nat, k ≤ xs.length ∧ i = .int .i64 k ∧ s = .int .i64 (sqs (xs.take k))) (fun _ _ i => xs.length - (intOf i).toNat)
  case atStart => exact ⟨0, Nat.zero_le _, rfl, rfl⟩
  case round =>
    obtain ⟨k, hk, rfl, rfl⟩ := hrel
    by_cases hlt : k < xs.length
    · clear hFind hClone q22
      obtain ⟨x, q, s, s', e1, e2, e3, e4, e5, e6, e7, e8, e9⟩ := HS.out k hlt
      obtain ⟨g, rfl, _, _, hc, _⟩ := H.out.cells (by omega)
      have q1 := hc k hlt
      clear hc
      rw [e1] at q1
      rw [e3]
      have HE := Lib.hid e4
      clear e1 e3 e4
      have r0 : (0 : Int) ≤ (k : Int) := by omega
      have r1 : (k : Int) < (xs.length : Int) := by omega
      go_wp2
      go_round
      case rel => exact ⟨k + 1, by omega, by go_num, by rw [HE.out]⟩
      case measure => simp [intOf]; omega
    · have hke : k = xs.length := by omega
      subst hke
      have he : xs.take xs.length = xs := List.take_length
      rw [he]
      clear he HS
      obtain ⟨s, HSum⟩ : ∃ s, Hid (sqs xs = s) := ⟨_, Lib.hid rfl⟩
      rw [HSum.out]
      go_wp2_with fail
      refine (hFind _ H.out).mono ?_
      rintro e w' ⟨r, rfl, hr, rfl⟩
      rcases hr with ⟨rfl, hz⟩ | ⟨k, rfl, hkl, hkn, hkz⟩
      · have HO : Hid (Offered best xs best) := Lib.hid (.stay fun h => absurd h (FirstAt.zero hz))
        clear hz hFind hClone
        go_wp2
        first | go_end0 | (simp only [Exit.inBlock, Exit.then]; refine bodyPost_ret (results_none rfl _ _ _) rfl ?_) | refine bodyPost_ret (results_none rfl _ _ _) rfl ?_
        exact ⟨rfl, best, HB.out, HO.out, FarI.refl _ _ _⟩
      · obtain ⟨g, rfl, _, hgw, hc, _⟩ := H.out.cells (by omega)
        have q1 := hc k hkl
        clear hc
        obtain ⟨z, hz⟩ : ∃ z, Hid (xs.getD k 0 = z) := ⟨_, Lib.hid rfl⟩
        rw [hz.out] at q1 hkn
        have r0 : (0 : Int) ≤ (k : Int) := by omega
        have r1 : (k : Int) < (xs.length : Int) := by omega
        by_cases hneg : z < 0
        · have HO : Hid (Offered best xs best) := Lib.hid (.stay fun h => absurd h (FirstAt.neg hkl (by rw [hz.out]; exact hneg) hkz))
          clear hkz hFind hClone
          go_wp2
          first | go_end0 | (simp only [Exit.inBlock, Exit.then]; refine bodyPost_ret (results_none rfl _ _ _) rfl ?_) | refine bodyPost_ret (results_none rfl _ _ _) rfl ?_
          exact ⟨rfl, best, HB.out, HO.out, FarI.refl _ _ _⟩
        · have HP : Hid (Pos xs) := Lib.hid ⟨k, hkl, by rw [hz.out]; omega, hkz⟩
          clear hkz hFind hkn
          cases best with
          | none =>
            have hblk : Blk w p #[.slice none 0 0, .int .i64 0] 41 := HB.out
            have HK := Lib.hid hblk
            have c0 := hblk.cell 0 rfl
            have c1 := hblk.cell 1 rfl
            have hcl := hClone w H.out
            clear hClone hblk
            go_wp2_with fail
            refine hcl.mono ?_
            rintro e w1 ⟨v', rfl, hown⟩
            obtain ⟨gn, capn, rfl, _⟩ := hown.cell
            have HO := Lib.hid hown
            have k1 := HK.out.later hown.below
            have d0 := k1.cell 0 rfl
            have d1 := k1.cell 1 rfl
            obtain ⟨f0, f1⟩ := clause_free k1
            clear hown k1 hcl
            go_wp2
            first | go_end0 | (simp only [Exit.inBlock, Exit.then]; refine bodyPost_ret (results_none rfl _ _ _) rfl ?_) | refine bodyPost_ret (results_none rfl _ _ _) rfl ?_
            have hst := BsAt.stored HK.out HO.out H08.out.1 H08.out.2
            rw [HSum.out] at hst
            exact ⟨rfl, some xs, hst.1, .none HP.out, hst.2⟩
          | some ys =>
            obtain ⟨g2, cy, hblk, hhy, hy0, hy8⟩ := HB.out
            have HK := Lib.hid hblk
            have c0 := hblk.cell 0 rfl
            have c1 := hblk.cell 1 rfl
            have hcl := hClone w H.out
            have hcmp := CompareI_any xs ys _ _ c cy _ _ w H.out hhy (by have := H08.out; omega) (by omega)
            obtain ⟨t, HT⟩ : ∃ t, Hid (sqs ys = t) := ⟨_, Lib.hid rfl⟩
            rw [HT.out] at c1 hblk HK
            clear hClone hblk hhy
            rcases Int.lt_trichotomy s t with hlt2 | heq | hgt
            · have HO : Hid (Offered (some ys) xs (some xs)) := Lib.hid (.turn HP.out (by rw [HSum.out, HT.out]; omega))
              clear hcmp
              go_wp2_with fail
              refine hcl.mono ?_
              rintro e w1 ⟨v', rfl, hown⟩
              obtain ⟨gn, capn, rfl, _⟩ := hown.cell
              have HOw := Lib.hid hown
              have k1 := HK.out.later hown.below
              have d0 := k1.cell 0 rfl
              have d1 := k1.cell 1 rfl
              obtain ⟨f0, f1⟩ := clause_free k1
              clear hown k1 hcl
              go_wp2
              first | go_end0 | (simp only [Exit.inBlock, Exit.then]; refine bodyPost_ret (results_none rfl _ _ _) rfl ?_) | refine bodyPost_ret (results_none rfl _ _ _) rfl ?_
              have hst := BsAt.stored HK.out HOw.out H08.out.1 H08.out.2
              rw [HSum.out] at hst
              exact ⟨rfl, some xs, hst.1, HO.out, hst.2⟩
            · subst heq
              have HO : Hid (Offered (some ys) xs (some xs)) := Lib.hid (.turn HP.out (by rw [HSum.out, HT.out]; omega))
              have HO2 : Hid (Offered (some ys) xs (some ys)) := Lib.hid (.stay fun _ => ⟨ys, rfl, by rw [HSum.out, HT.out]; omega⟩)
              go_wp2_with fail
              refine hcmp.mono ?_
              rintro e w' ⟨r, rfl, rfl⟩
              clear hcmp
              by_cases hr : r < 0
              · go_wp2_with fail
                refine hcl.mono ?_
                rintro e w1 ⟨v', rfl, hown⟩
                obtain ⟨gn, capn, rfl, _⟩ := hown.cell
                have HOw := Lib.hid hown
                have k1 := HK.out.later hown.below
                have d0 := k1.cell 0 rfl
                have d1 := k1.cell 1 rfl
                obtain ⟨f0, f1⟩ := clause_free k1
                clear hown k1 hcl
                go_wp2
                first | go_end0 | (simp only [Exit.inBlock, Exit.then]; refine bodyPost_ret (results_none rfl _ _ _) rfl ?_) | refine bodyPost_ret (results_none rfl _ _ _) rfl ?_
                have hst := BsAt.stored HK.out HOw.out H08.out.1 H08.out.2
                rw [HSum.out] at hst
                exact ⟨rfl, some xs, hst.1, HO.out, hst.2⟩
              · clear hcl
                go_wp2
                first | go_end0 | (simp only [Exit.inBlock, Exit.then]; refine bodyPost_ret (results_none rfl _ _ _) rfl ?_) | refine bodyPost_ret (results_none rfl _ _ _) rfl ?_
                exact ⟨rfl, some ys, HB.out, HO2.out, FarI.refl _ _ _⟩
            · have HO2 : Hid (Offered (some ys) xs (some ys)) := Lib.hid (.stay fun _ => ⟨ys, rfl, by rw [HSum.out, HT.out]; omega⟩)
              clear hcl hcmp
              go_wp2
              first | go_end0 | (simp only [Exit.inBlock, Exit.then]; refine bodyPost_ret (results_none rfl _ _ _) rfl ?_) | refine bodyPost_ret (results_none rfl _ _ _) rfl ?_
              exact ⟨rfl, some ys, HB.out, HO2.out, FarI.refl _ _ _⟩
end Go.Proofs.Ythkgaldpajnjgaa

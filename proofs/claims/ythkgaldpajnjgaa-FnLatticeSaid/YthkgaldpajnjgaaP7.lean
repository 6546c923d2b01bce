/-
  Contract of shortestList's waves, whole. Conditions: a valid congruence; the bound is at most 200000.
-/
import Derived.Test.YthkgaldpajnjgaaP6
namespace Go.Proofs.Ythkgaldpajnjgaa
open Go.RowKit
set_option linter.unusedVariables false

theorem w64' {x : Int} (h1 : -1000000000000 ≤ x) (h2 : x ≤ 1000000000000) : wrap64 x = x ∧ IntKind.i64.wrap x = x :=
  ⟨IntWalk.wrap64_in _ ⟨by omega, by omega⟩, by rw [IntKind.wrap_i64]; omega⟩
set_option maxHeartbeats 4000000 in
set_option maxRecDepth 100000 in
theorem waves_any (m f a : Int) (hv : vcB m f a = true) (K dim p : Nat) (hd : K + 1 = dim) (hK0 : 1 ≤ K) (hK : K ≤ 7) (B : Int) (B1 : 1 ≤ B) (B2 : B ≤ 200000) : ∀ (r n : Nat) (xs : List Int) (ab : Option Addr) (c : Nat) (best : Option (List Int)) (w : World), n + r = K → xs.length = n → HasL (p + 1) w ab c xs → (n = 0 → ab = none ∧ c = 0) → sqs xs ≤ B * B → BsAt w p best → GoodW K m f B best →
    Calls Try.prog 17 #[.pointer (some ⟨p, 0, none⟩), .agg #[.int .i64 m, .int .i64 f, .int .i64 a], .int .i64 dim, .slice ab n c, .int .i64 (sqs xs), .int .i64 (wv m f xs).2, .int .i64 (wv m f xs).1, .int .i64 B] w fun e w' => e = .returned (.tuple #[]) ∧ ∃ best', FoundW p K m f B best w w' best' ∧ WCov m f B xs r best' := by
  intro r
  induction r with
  | zero =>
    intro n xs ab c best w hr hlen hl hnil hsq hb hg
    have e : n = K := by omega
    subst e
    exact waves_last m f a hv n dim p hd hK0 hK B B1 B2 xs ab c best w hlen hl hsq hb hg
  | succ r ih =>
    intro n xs ab c best w hr hlen hl hnil hsq hb hg
    obtain ⟨m1, m2, m3⟩ := vcB_true hv
    obtain ⟨p1, s1⟩ := wv_bd m1.1 m2 xs
    have hd1 : (dim : Int) - 1 = (K : Int) := by omega
    have hnK : (n : Int) < (K : Int) := by omega
    have hpw := hb.lt
    have hBB : B * B ≤ 200000 * 200000 := Int.mul_le_mul (by omega) (by omega) (by omega) (by omega)
    have hBB0 := sq_nonneg B
    obtain ⟨w1, hw1⟩ : ∃ w1, w.alloc (.cells (cgr m f a) 25) = w1 := ⟨_, rfl⟩
    have hw1' : w.alloc (.cells #[.int .i64 m, .int .i64 f, .int .i64 a] 25) = w1 := hw1
    obtain ⟨q, hq⟩ : ∃ q, w.heap.size = q := ⟨_, rfl⟩
    have HI : Hid (Inv p q m f a best n ab c xs w1) := Lib.hid (by
      rw [← hw1]
      exact ⟨hb.later (bw_alloc (bw_refl w) _), Blk.new' hq _ _, hl.later (bw_alloc (bw_refl w) _), hlen, by omega⟩)
    have HFr : Hid (FarI p (p + 1) w w1) := Lib.hid (by rw [← hw1]; exact FarI.ofBelow (bw_alloc (bw_refl w) _))
    have HG := Lib.hid hg
    have S0 : 0 ≤ sqs xs := sqs_nonneg xs
    have HCl := Lib.hid (fun w' h => CloneZ_any xs n hlen ab c (p + 1) w' h hnil (by omega))
    have HLn := Lib.hid hlen
    obtain ⟨P, HP⟩ : ∃ P, Hid ((wv m f xs).1 = P) := ⟨_, Lib.hid rfl⟩
    obtain ⟨s, HSm⟩ : ∃ s, Hid ((wv m f xs).2 = s) := ⟨_, Lib.hid rfl⟩
    have HWv : Hid (wv m f xs = (P, s)) := Lib.hid (by rw [← HP.out, ← HSm.out])
    have HIH : Hid (∀ (t : Int) (g cap : Nat) (W w3 : World) (sv s' p' : Int) (best' : Option (List Int)), OwnI .i64 W.heap.size 2 W w3 (.slice (some ⟨g, 0, none⟩) (n + 1) cap) (xs ++ [t]) → p < W.heap.size → sqs xs + t * t = sv → sv ≤ B * B → wst m f (P, s) t = (p', s') → BsAt w3 p best' → GoodW K m f B best' →
        Calls Try.prog 17 #[.pointer (some ⟨p, 0, none⟩), .agg #[.int .i64 m, .int .i64 f, .int .i64 a], .int .i64 dim, .slice (some ⟨g, 0, none⟩) (n + 1) cap, .int .i64 sv, .int .i64 s', .int .i64 p', .int .i64 B] w3 fun e w' => e = .returned (.tuple #[]) ∧ ∃ best2, FoundW p K m f B best' w3 w' best2 ∧ WCov m f B (xs ++ [t]) r best2) := Lib.hid (by
      intro t g cap W w3 sv s' p' best' ho hp hs hsB hw hb hg
      have hl2 : (xs ++ [t]).length = n + 1 := by rw [List.length_append]; simp; exact hlen
      obtain ⟨a', c', hv', hh⟩ := ho.hasL
      simp only [Value.slice.injEq] at hv'
      obtain ⟨rfl, _, rfl⟩ := hv'
      have hsum : sqs (xs ++ [t]) = sv := by rw [sqs_snoc, hs]
      have hwv : wv m f (xs ++ [t]) = (p', s') := by rw [wv_snoc, HWv.out, hw]
      have h9 := ih (n + 1) (xs ++ [t]) (some ⟨g, 0, none⟩) cap best' w3 (by omega) hl2 (hh.mono (by omega)) (by omega) (by omega) hb hg
      rw [hsum, hwv] at h9
      exact h9)
    clear hl hb hg hw1 hlen ih hnil hr
    obtain ⟨BB, HB⟩ : ∃ BB, B * B = BB := ⟨_, rfl⟩
    have hb64 : wrap64 BB = BB := IntWalk.wrap64_in _ ⟨by omega, by omega⟩
    have hbI : IntKind.i64.wrap BB = BB := by rw [IntKind.wrap_i64]; omega
    obtain ⟨S, HS⟩ : ∃ S, Hid (sqs xs = S) := ⟨_, Lib.hid rfl⟩
    rw [HSm.out] at s1 ⊢
    rw [HP.out] at p1 ⊢
    rw [HB] at hBB hBB0 hsq
    rw [HS.out] at hsq S0 ⊢
    have hSS : S ≤ 100000000000 := by omega
    clear hd
    go_enter Try.func17, Try.ntmps17
    obtain ⟨c0, c1, c2⟩ := HI.out.cells
    go_wp2
    clear c0 c1 c2 hw1'
    go_loopw [16, 17, 18] (fun tv _ _ wr => ∃ (t : Int) (best' : Option (List Int)), tv = .int .i64 t ∧ -B ≤ t ∧ t ≤ B + 1 ∧ Hid (Inv p q m f a best' n ab c xs wr) ∧ Hid (GoodW K m f B best' ∧ Upon best best' ∧ FarI p (p + 1) w wr) ∧ Hid (∀ z, -B ≤ z → z < t → WCov m f B (xs ++ [z]) r best')) (fun tv _ _ _ => (B + 1 - intOf tv).toNat)
    case atStart => exact ⟨-B, best, rfl, Int.le_refl _, by omega, HI, Lib.hid ⟨HG.out, Upon.refl _, HFr.out⟩, Lib.hid (fun z h1 h2 => by omega)⟩
    case round =>
      obtain ⟨t, best', rfl, t0, t1, hI, hG, hC⟩ := hrel
      by_cases hle0 : t ≤ B
      · obtain ⟨q1, sv, e1, e2, e3, e4, e5, e6, e7, e8⟩ := sq_facts (x := t) (S := S) (by omega) (by omega) S0 hSS
        have HE : Hid (sqs xs + t * t = sv) := Lib.hid (by rw [HS.out, e1, e2])
        obtain ⟨c0, c1, c2⟩ := hI.out.cells
        have hpl := hI.out.bs.lt
        by_cases hle : sv ≤ BB
        · obtain ⟨tm, u, v, p', y, s', f1, f2, f3, f4, f5, f6, f7, f8, f9, f10, f11, f12, f13⟩ := wst_facts (t := t) m1.1 m1.2 m2 p1 s1
          have hf1 := fun w => floorMod_of (n := t) (m := m) (r := tm) (w := w) (by omega) (by omega) f1
          have hf2 := fun w => floorMod_of (n := v) (m := m) (r := s') (w := w) (by omega) (by omega) f4
          have hIHx := fun g cap W w3 ho hp hb => HIH.out t g cap W w3 sv s' p' best' ho hp HE.out (by rw [HB]; exact hle) f7 hb hG.out.1
          have hCl := HCl.out
          clear f1 f4 f7
          go_upto_region 7 with fail
          go_quiet (first | (go_at_call 25; first | with_reducible exact quiet_left (hf1 _) | with_reducible exact quiet_left (hf2 _)))
          obtain ⟨wq, hwq⟩ : ∃ wq, wr.drewN nq = wq := ⟨_, rfl⟩
          have hIq : Hid (Inv p q m f a best' n ab c xs wq) := Lib.hid (by rw [← hwq]; exact hI.out.later (bw_drewN (bw_refl _) nq))
          have HFq : Hid (FarI p (p + 1) wr wq) := Lib.hid (by rw [← hwq]; exact (FarI.refl p (p + 1) wr).drewN nq)
          rw [hwq]
          clear hwq hf1 hf2 c0 c1 c2 hpl
          have hpl := hIq.out.bs.lt
          have hHn := HLn.out
          obtain ⟨c0, c1, c2⟩ := hIq.out.cells
          have hm0 : ¬ m = 0 := by omega
          have hm00 : (m == 0) = false := by simp; omega
          have hp64 : wrap64 p' = p' := by rw [← f6]; have h1 := Int.tmod_lt_of_pos y (show 0 < m by omega); have h2 := (fm_law (n := y) (m := m) (by omega)).2.1; exact (w64' (by omega) (by omega)).1
          have hpI : IntKind.i64.wrap p' = p' := by rw [← f6]; have h1 := Int.tmod_lt_of_pos y (show 0 < m by omega); have h2 := (fm_law (n := y) (m := m) (by omega)).2.1; exact (w64' (by omega) (by omega)).2
          go_upto_region 8 with fail
          go_region_held3 (fun w' => w'.cell? ⟨q, 0, none⟩ = some (.int .i64 m) ∧ w'.cell? ⟨q, 1, none⟩ = some (.int .i64 f) ∧ w'.cell? ⟨q, 2, none⟩ = some (.int .i64 a)) (go_keep)
            (first
              | (go_at_call 24; (with_reducible refine (hCl _ (by first | exact hIq.out.drew.list | exact (hIq.out.alloc _).drew.list | exact (hIq.out.drew.alloc _).list)).mono ?_); rintro e w2 ⟨v2, rfl, ho2⟩
                 have HB2 : Hid (Below wq.heap.size wq w2) := Lib.hid (by first | exact bw_call (bw_drew (bw_refl _)) ho2.below | exact bw_call (bw_drew (bw_alloc (bw_refl _) _)) ho2.below | exact bw_call (bw_alloc (bw_drew (bw_refl _)) _) ho2.below)
                 obtain ⟨c0, c1, c2⟩ := (hIq.out.later HB2.out).cells)
              | (refine stepAppZ tI rfl (.tmp 59) (.tmp 61) rfl (by simp [Act.eval]) ho2 (by simp [Act.eval]) ((ho2.below.block wq.heap.size (by simp)).trans (heap_alloc_new wq _)) (by decide) (by omega) (n + 1) (by omega) ?_; intro g3 cap3 w3 ho3
                 have HB3 : Hid (Below wq.heap.size wq w3) := Lib.hid (by first | exact bw_call (bw_drew (bw_refl _)) ho3.below | exact bw_call (bw_drew (bw_alloc (bw_refl _) _)) ho3.below | exact bw_call (bw_alloc (bw_drew (bw_refl _)) _) ho3.below)
                 obtain ⟨c0, c1, c2⟩ := (hIq.out.later HB3.out).cells)
              | (refine stepAppZ tI rfl (.tmp 59) (.tmp 61) rfl (by simp [Act.eval]) (ho2.alloc _) (by simp [Act.eval]) (heap_alloc_new w2 _) (by decide) (by omega) (n + 1) (by omega) ?_; intro g3 cap3 w3 ho3
                 have HB3 : Hid (Below wq.heap.size wq w3) := Lib.hid (by first | exact bw_call (bw_drew (bw_refl _)) ho3.below | exact bw_call (bw_drew (bw_alloc (bw_refl _) _)) ho3.below | exact bw_call (bw_alloc (bw_drew (bw_refl _)) _) ho3.below)
                 obtain ⟨c0, c1, c2⟩ := (hIq.out.later HB3.out).cells)
              | (go_at_call 17; (with_reducible refine (hIHx g3 cap3 _ w3 ho3 (by simp; omega) (hIq.out.later HB3.out).bs).mono ?_); rintro e w4 ⟨rfl, best2, hf4, hc4⟩
                 have HI4 := Lib.hid ((hIq.out.later HB3.out).turn hf4.2.2.2 hf4.1)
                 obtain ⟨c0, c1, c2⟩ := HI4.out.cells))
          all_goals (
            go_wp2
            go_roundw
            (case rel => exact ⟨t + 1, best2, rfl, by omega, by omega, HI4, Lib.hid ⟨hf4.2.1, hG.out.2.1.trans hf4.2.2.1, hG.out.2.2.trans (HFq.out.trans ((FarI.ofBelow HB3.out).trans hf4.2.2.2))⟩, Lib.hid (fun z h1 h2 => by
              by_cases hz : z = t
              · subst hz; exact hc4
              · exact (hC.out z h1 (by omega)).mono hf4.2.2.1)⟩)
            (case measure => exact tleft hle0))
        · go_wp2
          go_roundw
          case rel => exact ⟨t + 1, best', rfl, by omega, by omega, hI, hG, Lib.hid (fun z h1 h2 => by
            by_cases hz : z = t
            · subst hz; exact WCov.far (by rw [HE.out, HB]; exact hle)
            · exact hC.out z h1 (by omega))⟩
          case measure => exact tleft hle0
      · have HW : Hid (WCov m f B xs (r + 1) best') := Lib.hid (WCov.all (by omega) (fun z h1 h2 => hC.out z h1 (by omega)))
        go_wp2
        first | go_end0 | (simp only [Exit.inBlock, Exit.then]; refine bodyPost_ret (results_none rfl _ _ _) rfl ?_) | refine bodyPost_ret (results_none rfl _ _ _) rfl ?_
        exact ⟨rfl, best', ⟨hI.out.bs, hG.out.1, hG.out.2.1, hG.out.2.2⟩, HW.out⟩
end Go.Proofs.Ythkgaldpajnjgaa

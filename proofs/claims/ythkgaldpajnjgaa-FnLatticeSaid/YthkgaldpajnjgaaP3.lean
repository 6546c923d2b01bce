/-
  Contract of shortestList's points: the search through the points that begin with given elements. Conditions: a valid congruence; the sums are at most 10^10.
-/
import Derived.Test.YthkgaldpajnjgaaM30
import Derived.Test.YthkgaldpajnjgaaC11
import Derived.Test.YthkgaldpajnjgaaReg
import Derived.Deep.RegionHeld3
import Derived.Deep.DeepCutAuto
namespace Go.Proofs.Ythkgaldpajnjgaa
open Go.RowKit
set_option linter.unusedVariables false

/-- append of one number that lies in a block of its own, inside a region that draws. -/
theorem stepAppB {P : Program} {t e : TypeId} {k : IntKind} {bytes : Nat} (T : SliceT P t e k bytes) {ops : Array Oper} {o : Oper} {a : Act} {K : Act → World → Prop} {Q : Exit → Act → World → Prop} {E : Prop} (hgd : o.guard = none) (s x : Operand)
    (ho : o.op = .call { callee := .builtin .append, args := #[s, x], argTypes := #[t, t] })
    {base : Nat} {W wr : World} {v : Value} {xs : List Int} {z : Int} {e' bx : Nat} (hs : a.eval s = v) (hown : OwnI k base e W wr v xs)
    (hx : a.eval x = .slice (some ⟨bx, 0, none⟩) 1 1) (hbx : wr.heap[bx]? = some (.cells #[.int k z] e')) (hb : bytes ≤ 8) (hn : xs.length < 1000000000000) (n : Nat) (hn1 : xs.length + 1 = n)
    (h : ∀ g cap w', OwnI k base e W w' (.slice (some ⟨g, 0, none⟩) n cap) (xs ++ [z]) → Below wr.heap.size wr w' ∨ True → K (a.put o.dst (.slice (some ⟨g, 0, none⟩) n cap)) w') :
    if Region.wanted o (yielded ops a.tmps) = true then Oper.wp P o a wr K Q else E := by
  obtain ⟨i, hi, hz0, hz1, hz2⟩ := T.info
  have h1 := hown.1
  refine step_append_lies (P := P) _ hgd s x t ho base e i (.int k 0) 1 bytes T.under hi hz0 hz1 hz2 rfl (by decide) v _ _ hs h1 ⟨bx, 0, none⟩ 1 1 [.int k z] hx rfl ?_ ?_ (by decide) ?_ ?_ ?_ _ rfl ?_
  · exact World.news_of_block (cs := #[.int k z]) (t := e') hbx
  · intro u hu; simp at hu; subst hu; rfl
  · unfold maxLen; omega
  · have : (xs.length + 1) * bytes ≤ 1000000000000 * 8 := Nat.mul_le_mul (by omega) hb
    omega
  · exact hown.2.2.1
  · intro g cap w' hown' hgrow hat hlt
    subst hn1
    refine h _ _ w' ⟨by simpa using hown', ?_, ?_, g, cap, by simp⟩ (.inr trivial)
    · exact hown.2.1.grown hgrow hown.2.2.1 fun k' hk' => (h1.lt k' hk').1
    · have h2 := hgrow.size; have h3 := hown.2.2.1; omega

/-- What stands while points and waves search: the best list so far at block p, the congruence at block q, the list of elements. -/
def Inv (p q : Nat) (m f a : Int) (best : Option (List Int)) (n : Nat) (ab : Option Addr) (c : Nat) (xs : List Int) (w : World) : Prop :=
  BsAt w p best ∧ Blk w q (cgr m f a) 25 ∧ HasL (p + 1) w ab c xs ∧ xs.length = n ∧ p < q
theorem Inv.later {p q : Nat} {m f a : Int} {best : Option (List Int)} {n : Nat} {ab : Option Addr} {c : Nat} {xs : List Int} {w w' : World} (h : Inv p q m f a best n ab c xs w) (hb : Below w.heap.size w w') : Inv p q m f a best n ab c xs w' :=
  ⟨h.1.later hb, h.2.1.later hb, h.2.2.1.later hb, h.2.2.2⟩
theorem Inv.turn {p q : Nat} {m f a : Int} {best best' : Option (List Int)} {n : Nat} {ab : Option Addr} {c : Nat} {xs : List Int} {w w' : World} (h : Inv p q m f a best n ab c xs w) (hf : FarI p (p + 1) w w') (hb : BsAt w' p best') : Inv p q m f a best' n ab c xs w' :=
  ⟨hb, (hf.block q h.2.1.lt (by have := h.2.2.2.2; omega)).trans h.2.1, h.2.2.1.above hf, h.2.2.2⟩
theorem Inv.drew {p q : Nat} {m f a : Int} {best : Option (List Int)} {n : Nat} {ab : Option Addr} {c : Nat} {xs : List Int} {w : World} (h : Inv p q m f a best n ab c xs w) : Inv p q m f a best n ab c xs w.drew := h.later (bw_drew (bw_refl _))
theorem Inv.alloc {p q : Nat} {m f a : Int} {best : Option (List Int)} {n : Nat} {ab : Option Addr} {c : Nat} {xs : List Int} {w : World} (h : Inv p q m f a best n ab c xs w) (o : Obj) : Inv p q m f a best n ab c xs (w.alloc o) := h.later (bw_alloc (bw_refl _) o)
theorem Inv.cells {p q : Nat} {m f a : Int} {best : Option (List Int)} {n : Nat} {ab : Option Addr} {c : Nat} {xs : List Int} {w : World} (h : Inv p q m f a best n ab c xs w) :
    w.cell? ⟨q, 0, none⟩ = some (.int .i64 m) ∧ w.cell? ⟨q, 1, none⟩ = some (.int .i64 f) ∧ w.cell? ⟨q, 2, none⟩ = some (.int .i64 a) := by
  obtain ⟨h0, h1, h2, _⟩ := cgr_cells h.2.1; exact ⟨h0, h1, h2⟩
theorem Inv.best {p q : Nat} {m f a : Int} {ys : List Int} {n : Nat} {ab : Option Addr} {c : Nat} {xs : List Int} {w : World} (h : Inv p q m f a (some ys) n ab c xs w) :
    w.cell? ⟨p, 1, none⟩ = some (.int .i64 (sqs ys)) := by
  obtain ⟨g, c, h1, _⟩ := h.1; exact h1.cell 1 rfl
theorem Inv.list {p q : Nat} {m f a : Int} {best : Option (List Int)} {n : Nat} {ab : Option Addr} {c : Nat} {xs : List Int} {w : World} (h : Inv p q m f a best n ab c xs w) : HasL (p + 1) w ab c xs := h.2.2.1
theorem Inv.bs {p q : Nat} {m f a : Int} {best : Option (List Int)} {n : Nat} {ab : Option Addr} {c : Nat} {xs : List Int} {w : World} (h : Inv p q m f a best n ab c xs w) : BsAt w p best := h.1
/-- What points says of the best list and of the world behind it. -/
def Found (p dim : Nat) (m f : Int) (ys : List Int) (w : World) (w' : World) (ys' : List Int) : Prop :=
  BsAt w' p (some ys') ∧ Good dim m f ys' ∧ sqs ys' ≤ sqs ys ∧ FarI p (p + 1) w w'
theorem cov_next {m f : Int} {xs : List Int} {r : Nat} {x R B B' : Int} (h : x = R ∨ CovT m f xs r R B) (hx : CovT m f xs r x B') (hB : B' ≤ B) : CovT m f xs r R B' := by
  rcases h with rfl | h
  · exact hx
  · exact h.mono hB
theorem cov_end {m f : Int} {xs : List Int} {r : Nat} {x R B : Int} (h : x = R ∨ CovT m f xs r R B) (hx : ¬ sqs xs + x * x ≤ B) : CovT m f xs r R B := by
  rcases h with rfl | h
  · exact CovT.far hx
  · exact h
theorem down_left {x m : Int} (h : 2 ≤ m) (hx : -200000 ≤ x) : (300000 + (x - m)).toNat < (300000 + x).toNat := by omega
theorem up_left {x m : Int} (h : 2 ≤ m) (hx : x ≤ 200000) : (300000 - (x + m)).toNat < (300000 - x).toNat := by omega
theorem Clone_n (xs : List Int) (n : Nat) (hn : xs.length = n) (a : Option Addr) (c base : Nat) (w : World) (h : HasL base w a c xs) (h0 : 0 < n) (hx : n < 100) :
    Calls Try.prog 24 #[.slice a n c] w fun e w' => ∃ g cap, e = .returned (.slice (some ⟨g, 0, none⟩) n cap) ∧ OwnI .i64 w.heap.size 2 w w' (.slice (some ⟨g, 0, none⟩) n cap) xs := by
  subst hn
  refine (CloneI_any xs a c base w h h0 (by omega)).mono ?_
  rintro e w' ⟨v', rfl, ho⟩
  obtain ⟨g, cap, rfl, _⟩ := ho.cell
  exact ⟨g, cap, rfl, ho⟩
theorem points_end {m f a : Int} {dim p : Nat} (hd : dim ≤ 8) {xs ys : List Int} {ab : Option Addr} {c base : Nat} {w : World} (h : HasL base w ab c xs) (hl : xs.length = dim) (h0 : 0 < dim) (hs : sqs xs ≤ 10000000000) (hp : IsPt m f xs) (hb : BsAt w p (some ys)) (hg : Good dim m f ys) :
    Calls Try.prog 15 #[.pointer (some ⟨p, 0, none⟩), .slice ab dim c] w fun e w' => e = .returned (.tuple #[]) ∧ ∃ ys', Found p dim m f ys w w' ys' ∧ CovP m f xs 0 (xs.getD (dim - 1) 0) (sqs ys') := by
  subst hl
  refine (offer_any xs ab c base p (some ys) w h h0 hd (small_of (by omega)) hb).mono ?_
  rintro e w' ⟨rfl, best', hb', ho, hf⟩
  obtain ⟨ys', rfl, hle⟩ := ho.mono (sqs ys) ⟨ys, rfl, Int.le_refl _⟩
  refine ⟨rfl, ys', ⟨hb', ?_, hle, hf⟩, ?_⟩
  · rcases ho.from_ with h | ⟨h, hP⟩
    · cases h; exact hg
    · cases h; exact ⟨rfl, hp, hP⟩
  · intro ts h1 h2 h3
    have e : ts = [] := List.eq_nil_of_length_eq_zero h1
    subst e
    rw [List.append_nil] at h3
    obtain ⟨zs, e, hz⟩ := ho.cov h3
    cases e
    simp only [sqs]; omega
set_option maxHeartbeats 2000000 in
set_option maxRecDepth 100000 in
theorem points_any (m f a : Int) (hv : vcB m f a = true) (dim p : Nat) (hd : dim ≤ 8) : ∀ (r n0 : Nat) (xs : List Int) (ab : Option Addr) (c : Nat) (ys : List Int) (w : World), n0 + 1 + r = dim → xs.length = n0 + 1 → HasL (p + 1) w ab c xs → IsPt m f xs → sqs xs ≤ 10000000000 → BsAt w p (some ys) → Good dim m f ys → sqs ys ≤ m * m →
    Calls Try.prog 16 #[.pointer (some ⟨p, 0, none⟩), .agg #[.int .i64 m, .int .i64 f, .int .i64 a], .int .i64 (dim : Nat), .slice ab (n0 + 1 : Nat) c, .int .i64 (sqs xs)] w fun e w' => e = .returned (.tuple #[]) ∧ ∃ ys', Found p dim m f ys w w' ys' ∧ CovP m f xs r (xs.getD n0 0) (sqs ys') := by
  obtain ⟨m1, m2, m3⟩ := vcB_true hv
  intro r
  induction r with
  | zero =>
    intro n0 xs ab c ys w hdim hlen hl hpt hsq hb hg hm
    have e : n0 + 1 = dim := by omega
    have hoff := fun w h hb => points_end (m := m) (f := f) (a := a) (p := p) (ys := ys) (base := p + 1) (ab := ab) (c := c) (w := w) hd h (hlen.trans e) (by omega) hsq hpt hb hg
    have hdd : dim - 1 = n0 := by omega
    rw [hdd] at hoff
    rw [e]
    have HI := Lib.hid (hl.later (bw_alloc (bw_refl w) (.cells (cgr m f a) 25)))
    have HB := Lib.hid (hb.later (bw_alloc (bw_refl w) (.cells (cgr m f a) 25)))
    have HF := Lib.hid (FarI.ofBelow (p := p) (bw_alloc (bw_refl w) (.cells (cgr m f a) 25)))
    clear hl hb hg hpt
    go_enter Try.func16, Try.ntmps16
    go_wp2_with fail
    refine (hoff _ HI.out HB.out).mono ?_
    rintro e w1 ⟨rfl, ys', hf, hc⟩
    have HFo := Lib.hid (And.intro hf hc)
    clear hf hc hoff
    go_wp2
    first | go_end0 | (simp only [Exit.inBlock, Exit.then]; refine bodyPost_ret (results_none rfl _ _ _) rfl ?_) | refine bodyPost_ret (results_none rfl _ _ _) rfl ?_
    exact ⟨rfl, ys', ⟨HFo.out.1.1, HFo.out.1.2.1, HFo.out.1.2.2.1, HF.out.trans HFo.out.1.2.2.2⟩, HFo.out.2⟩
  | succ r ih =>
    intro n0 xs ab c ys w hdim hlen hl hpt hsq hb hg hm
    obtain ⟨n, hn⟩ : ∃ n, n0 + 1 = n := ⟨_, rfl⟩
    rw [hn] at hlen ⊢
    have hne : ((n : Int) == (dim : Int)) = false := by simp; omega
    have hn1 : (n : Int) - 1 = (n0 : Int) := by omega
    have i0 : (0 : Int) ≤ (n0 : Int) := by omega
    have i1 : (n0 : Int) < (n : Int) := by omega
    have hn8 : n < 8 := by omega
    have hpw := hb.lt
    obtain ⟨w1, hw1⟩ : ∃ w1, w.alloc (.cells (cgr m f a) 25) = w1 := ⟨_, rfl⟩
    have hw1' : w.alloc (.cells #[.int .i64 m, .int .i64 f, .int .i64 a] 25) = w1 := hw1
    obtain ⟨q, hq⟩ : ∃ q, w.heap.size = q := ⟨_, rfl⟩
    have HI : Hid (Inv p q m f a (some ys) n ab c xs w1) := Lib.hid (by
      rw [← hw1]
      exact ⟨hb.later (bw_alloc (bw_refl w) _), Blk.new' hq _ _, hl.later (bw_alloc (bw_refl w) _), hlen, by omega⟩)
    have HF : Hid (FarI p (p + 1) w w1) := Lib.hid (by rw [← hw1]; exact FarI.ofBelow (bw_alloc (bw_refl w) _))
    obtain ⟨l, HL⟩ : ∃ l, Hid (xs.getD n0 0 = l) := ⟨_, Lib.hid rfl⟩
    obtain ⟨S, HS⟩ : ∃ S, Hid (sqs xs = S) := ⟨_, Lib.hid rfl⟩
    obtain ⟨g0, rfl, hg0, _, hcl, _⟩ := HI.out.2.2.1.cells (by omega)
    have hc0 := hcl n0 (by omega)
    have HG := Lib.hid hg
    have HP := Lib.hid hpt
    rw [HL.out] at hc0 ⊢
    have S0 : 0 ≤ S := by rw [← HS.out]; exact sqs_nonneg xs
    have S1 : S ≤ 10000000000 := by rw [← HS.out]; exact hsq
    rw [HS.out]
    clear hcl hg hpt hl hb hg0
    obtain ⟨c0, c1, c2⟩ := HI.out.cells
    have hL0 := Int.emod_nonneg l (show m ≠ 0 by omega)
    have hL1 := Int.emod_lt_of_pos l (show 0 < m by omega)
    have hR := nx_bd (m := m) (f := f) (l := l) (by omega)
    have HRd : Hid (f * (l % m) % m = nx m f l) := Lib.hid rfl
    obtain ⟨L, HLm⟩ : ∃ L, Hid (l % m = L) := ⟨_, Lib.hid rfl⟩
    rw [HLm.out] at hL0 hL1 HRd
    have hfl := mul_bd (m := m) (f := f) (x := L) (by omega) (by omega) (by omega) (by omega) (by omega)
    obtain ⟨fl, hfl1⟩ : ∃ fl, f * L = fl := ⟨_, rfl⟩
    rw [hfl1] at hfl HRd
    have hfw : wrap64 fl = fl := IntWalk.wrap64_in _ ⟨by omega, by omega⟩
    have hfw2 : IntKind.i64.wrap fl = fl := by rw [IntKind.wrap_i64]; omega
    obtain ⟨R, HR⟩ : ∃ R, Hid (nx m f l = R) := ⟨_, Lib.hid rfl⟩
    rw [HR.out] at hR HRd
    have hfm1 := fun w => floorMod_of (n := l) (m := m) (r := L) (w := w) (by omega) (by omega) HLm.out
    have hfm2 := fun w => floorMod_of (n := fl) (m := m) (r := R) (w := w) (by omega) (by omega) HRd.out
    have HCl := Lib.hid (fun w' h => Clone_n xs n hlen (some ⟨g0, 0, none⟩) c (p + 1) w' h (by omega) (by omega))
    have HIH : Hid (∀ (x : Int) (g cap : Nat) (W w3 : World) (s : Int) (ys' : List Int), OwnI .i64 W.heap.size 2 W w3 (.slice (some ⟨g, 0, none⟩) (n + 1) cap) (xs ++ [x]) → p < W.heap.size → (x - R) % m = 0 → S + x * x = s → s ≤ sqs ys' → BsAt w3 p (some ys') → Good dim m f ys' → sqs ys' ≤ m * m →
        Calls Try.prog 16 #[.pointer (some ⟨p, 0, none⟩), .agg #[.int .i64 m, .int .i64 f, .int .i64 a], .int .i64 dim, .slice (some ⟨g, 0, none⟩) (n + 1) cap, .int .i64 s] w3 fun e w' => e = .returned (.tuple #[]) ∧ ∃ ys'', Found p dim m f ys' w3 w' ys'' ∧ CovT m f xs r x (sqs ys'')) := Lib.hid (by
      intro x g cap W w3 s ys' ho hp hx hs hsB hb hg hm2
      have hl2 : (xs ++ [x]).length = n + 1 := by rw [List.length_append]; simp; exact hlen
      obtain ⟨a', c', hv', hh⟩ := ho.hasL
      simp only [Value.slice.injEq] at hv'
      obtain ⟨rfl, _, rfl⟩ := hv'
      have hsum : sqs (xs ++ [x]) = s := by rw [sqs_snoc, HS.out, hs]
      have hmm : m * m ≤ 100000 * 100000 := Int.mul_le_mul (by omega) (by omega) (by omega) (by omega)
      have h9 := ih n (xs ++ [x]) (some ⟨g, 0, none⟩) cap ys' w3 (by omega) hl2 (hh.mono (by omega)) (HP.out.snoc (n := n0) (l := l) (by omega) HL.out (nx_step (by rw [HR.out]; exact hx))) (by omega) hb hg hm2
      rw [hsum, getD_last hlen] at h9
      refine h9.mono ?_
      rintro e w' ⟨rfl, ys'', hf, hc⟩
      exact ⟨rfl, ys'', hf, CovT.of hc⟩)
    clear ih hL0 hL1 hw1
    go_enter Try.func16, Try.ntmps16
    go_upto_region 3 with fail
    clear hw1'
    go_quiet (first | (go_at_call 25; first | with_reducible exact quiet_left (hfm1 _) | with_reducible exact quiet_left (hfm2 _)))
    clear hfm1 hfm2 hc0 i0 i1 hn1 hfl hfw hfw2 c0 c1 c2
    have HI1 := Lib.hid (HI.out.later (bw_drewN (bw_refl _) nq))
    have HF1 := Lib.hid (HF.out.drewN nq)
    clear HI HF
    go_wp2
    go_loopw [11] (fun xv wr => ∃ (x : Int) (ys' : List Int), xv = .int .i64 x ∧ R ≤ x ∧ x ≤ 200000 ∧ Hid ((x - R) % m = 0) ∧ Hid (Inv p q m f a (some ys') n (some ⟨g0, 0, none⟩) c xs wr) ∧ Hid (Good dim m f ys' ∧ sqs ys' ≤ sqs ys ∧ FarI p (p + 1) w wr) ∧ Hid (x = R ∨ CovT m f xs r R (sqs ys'))) (fun xv _ => (300000 - intOf xv).toNat)
    case atStart => exact ⟨R, ys, rfl, Int.le_refl _, by omega, Lib.hid (by simp), HI1, Lib.hid ⟨HG.out, Int.le_refl _, HF1.out⟩, Lib.hid (.inl rfl)⟩
    case round =>
      obtain ⟨x, ys', rfl, x0, x1, hxm, hI, hG, hC⟩ := hrel
      have hmm : m * m ≤ 100000 * 100000 := Int.mul_le_mul (by omega) (by omega) (by omega) (by omega)
      have HBm : Hid (sqs ys' ≤ m * m) := Lib.hid (Int.le_trans hG.out.2.1 hm)
      have hB := Int.le_trans HBm.out hmm
      obtain ⟨q1, s, e1, e2, e3, e4, e5, e6, e7, e8⟩ := sq_facts (x := x) (S := S) (by omega) (by omega) S0 (by omega)
      obtain ⟨c0, c1, c2⟩ := hI.out.cells
      have c3 := hI.out.best
      have hpl := hI.out.bs.lt
      obtain ⟨B, hBd⟩ : ∃ B, Hid (sqs ys' = B) := ⟨_, Lib.hid rfl⟩
      rw [hBd.out] at c3 hB
      have HE1 := Lib.hid e1
      by_cases hle : s ≤ B
      · have hx5 := root_bd (M := 100000) (by rw [HE1.out]; exact e2) S0 hle hB (by omega)
        have hIHx := fun g cap W w3 ho hp hb => HIH.out x g cap W w3 s ys' ho hp hxm.out (by rw [HE1.out]; exact e2) (by rw [hBd.out]; exact hle) hb hG.out.1 HBm.out
        have hCl := HCl.out
        go_upto_region 7 with fail
        go_region_held3 (fun w' => w'.cell? ⟨q, 0, none⟩ = some (.int .i64 m) ∧ w'.cell? ⟨q, 1, none⟩ = some (.int .i64 f) ∧ w'.cell? ⟨q, 2, none⟩ = some (.int .i64 a)) (go_keep)
          (first
            | (go_at_call 24; (with_reducible refine (hCl _ (by first | exact hI.out.drew.list | exact (hI.out.alloc _).drew.list | exact (hI.out.drew.alloc _).list)).mono ?_); rintro e w2 ⟨g2, cap2, rfl, ho2⟩
               have HB2 : Hid (Below wr.heap.size wr w2) := Lib.hid (by first | exact bw_call (bw_drew (bw_refl _)) ho2.below | exact bw_call (bw_drew (bw_alloc (bw_refl _) _)) ho2.below | exact bw_call (bw_alloc (bw_drew (bw_refl _)) _) ho2.below)
               obtain ⟨c0, c1, c2⟩ := (hI.out.later HB2.out).cells)
            | (refine stepAppB tI rfl (.tmp 54) (.tmp 56) rfl (by simp [Act.eval]) ho2 (by simp [Act.eval]) ((ho2.below.block wr.heap.size (by simp)).trans (heap_alloc_new wr _)) (by decide) (by omega) (n + 1) (by omega) ?_; intro g3 cap3 w3 ho3 _
               have HB3 : Hid (Below wr.heap.size wr w3) := Lib.hid (by first | exact bw_call (bw_drew (bw_refl _)) ho3.below | exact bw_call (bw_drew (bw_alloc (bw_refl _) _)) ho3.below | exact bw_call (bw_alloc (bw_drew (bw_refl _)) _) ho3.below)
               obtain ⟨c0, c1, c2⟩ := (hI.out.later HB3.out).cells)
            | (refine stepAppB tI rfl (.tmp 54) (.tmp 56) rfl (by simp [Act.eval]) (ho2.alloc _) (by simp [Act.eval]) (heap_alloc_new w2 _) (by decide) (by omega) (n + 1) (by omega) ?_; intro g3 cap3 w3 ho3 _
               have HB3 : Hid (Below wr.heap.size wr w3) := Lib.hid (by first | exact bw_call (bw_drew (bw_refl _)) ho3.below | exact bw_call (bw_drew (bw_alloc (bw_refl _) _)) ho3.below | exact bw_call (bw_alloc (bw_drew (bw_refl _)) _) ho3.below)
               obtain ⟨c0, c1, c2⟩ := (hI.out.later HB3.out).cells)
            | (go_at_call 16; (with_reducible refine (hIHx g3 cap3 _ w3 ho3 (by simp; omega) (hI.out.later HB3.out).bs).mono ?_); rintro e w4 ⟨rfl, ys'', hf4, hc4⟩
               have HI4 := Lib.hid ((hI.out.later HB3.out).turn hf4.2.2.2 hf4.1)
               obtain ⟨c0, c1, c2⟩ := HI4.out.cells))
        all_goals (
          go_wp2
          go_roundw
          (case rel => exact ⟨x + m, ys'', rfl, by omega, by omega, Lib.hid (mod_up hxm.out), HI4, Lib.hid ⟨hf4.2.1, Int.le_trans hf4.2.2.1 hG.out.2.1, hG.out.2.2.trans ((FarI.ofBelow HB3.out).trans hf4.2.2.2)⟩, Lib.hid (.inr (cov_next hC.out hc4 hf4.2.2.1))⟩)
          (case measure => exact up_left m1.1 x1))
      · have HCR : Hid (CovT m f xs r R (sqs ys')) := Lib.hid (cov_end hC.out (by rw [HS.out, HE1.out, hBd.out, e2]; exact hle))
        obtain ⟨wo, rfl⟩ : ∃ wo : World, wo = wr := ⟨_, rfl⟩
        have hE0 := hI
        have hE1 := hG
        go_wp2
        clear c0 c1 c2 c3 e1 e2 e3 e4 e5 e6 e7 e8 HE1 hle hxm hC hB hI hG x0 x1
        go_loopw [12] (fun xv wr => ∃ (x : Int) (zs : List Int), xv = .int .i64 x ∧ -200000 ≤ x ∧ x ≤ R - m ∧ Hid ((x - R) % m = 0) ∧ Hid (Inv p q m f a (some zs) n (some ⟨g0, 0, none⟩) c xs wr) ∧ Hid (Good dim m f zs ∧ sqs zs ≤ sqs ys ∧ FarI p (p + 1) w wr) ∧ Hid (CovT m f xs r R (sqs zs)) ∧ Hid (x = R - m ∨ CovT m f xs r (R - m) (sqs zs))) (fun xv _ => (300000 + intOf xv).toNat)
        case atStart => exact ⟨R - m, ys', rfl, by omega, Int.le_refl _, Lib.hid (mod_down (by simp)), hE0, hE1, HCR, Lib.hid (.inl rfl)⟩
        case round =>
          obtain ⟨x, zs, rfl, x0, x1, hxm, hI, hG, hC1, hC⟩ := hrel
          have HBm : Hid (sqs zs ≤ m * m) := Lib.hid (Int.le_trans hG.out.2.1 hm)
          have hB := Int.le_trans HBm.out hmm
          obtain ⟨q1, s, e1, e2, e3, e4, e5, e6, e7, e8⟩ := sq_facts (x := x) (S := S) (by omega) (by omega) S0 (by omega)
          obtain ⟨c0, c1, c2⟩ := hI.out.cells
          have c3 := hI.out.best
          have hpl := hI.out.bs.lt
          obtain ⟨B, hBd⟩ : ∃ B, Hid (sqs zs = B) := ⟨_, Lib.hid rfl⟩
          rw [hBd.out] at c3 hB
          have HE1 := Lib.hid e1
          by_cases hle : s ≤ B
          · have hx5 := root_bd (M := 100000) (by rw [HE1.out]; exact e2) S0 hle hB (by omega)
            have hIHx := fun g cap W w3 ho hp hb => HIH.out x g cap W w3 s zs ho hp hxm.out (by rw [HE1.out]; exact e2) (by rw [hBd.out]; exact hle) hb hG.out.1 HBm.out
            have hCl := HCl.out
            go_upto_region 11 with fail
            go_region_held3 (fun w' => w'.cell? ⟨q, 0, none⟩ = some (.int .i64 m) ∧ w'.cell? ⟨q, 1, none⟩ = some (.int .i64 f) ∧ w'.cell? ⟨q, 2, none⟩ = some (.int .i64 a)) (go_keep)
              (first
                | (go_at_call 24; (with_reducible refine (hCl _ (by first | exact hI.out.drew.list | exact (hI.out.alloc _).drew.list | exact (hI.out.drew.alloc _).list)).mono ?_); rintro e w2 ⟨g2, cap2, rfl, ho2⟩
                   have HB2 : Hid (Below wr.heap.size wr w2) := Lib.hid (by first | exact bw_call (bw_drew (bw_refl _)) ho2.below | exact bw_call (bw_drew (bw_alloc (bw_refl _) _)) ho2.below | exact bw_call (bw_alloc (bw_drew (bw_refl _)) _) ho2.below)
                   obtain ⟨c0, c1, c2⟩ := (hI.out.later HB2.out).cells)
                | (refine stepAppB tI rfl (.tmp 86) (.tmp 88) rfl (by simp [Act.eval]) ho2 (by simp [Act.eval]) ((ho2.below.block wr.heap.size (by simp)).trans (heap_alloc_new wr _)) (by decide) (by omega) (n + 1) (by omega) ?_; intro g3 cap3 w3 ho3 _
                   have HB3 : Hid (Below wr.heap.size wr w3) := Lib.hid (by first | exact bw_call (bw_drew (bw_refl _)) ho3.below | exact bw_call (bw_drew (bw_alloc (bw_refl _) _)) ho3.below | exact bw_call (bw_alloc (bw_drew (bw_refl _)) _) ho3.below)
                   obtain ⟨c0, c1, c2⟩ := (hI.out.later HB3.out).cells)
                | (refine stepAppB tI rfl (.tmp 86) (.tmp 88) rfl (by simp [Act.eval]) (ho2.alloc _) (by simp [Act.eval]) (heap_alloc_new w2 _) (by decide) (by omega) (n + 1) (by omega) ?_; intro g3 cap3 w3 ho3 _
                   have HB3 : Hid (Below wr.heap.size wr w3) := Lib.hid (by first | exact bw_call (bw_drew (bw_refl _)) ho3.below | exact bw_call (bw_drew (bw_alloc (bw_refl _) _)) ho3.below | exact bw_call (bw_alloc (bw_drew (bw_refl _)) _) ho3.below)
                   obtain ⟨c0, c1, c2⟩ := (hI.out.later HB3.out).cells)
                | (go_at_call 16; (with_reducible refine (hIHx g3 cap3 _ w3 ho3 (by simp; omega) (hI.out.later HB3.out).bs).mono ?_); rintro e w4 ⟨rfl, zs', hf4, hc4⟩
                   have HI4 := Lib.hid ((hI.out.later HB3.out).turn hf4.2.2.2 hf4.1)
                   obtain ⟨c0, c1, c2⟩ := HI4.out.cells))
            all_goals (
              go_wp2
              go_roundw
              (case rel => exact ⟨x - m, zs', rfl, by omega, by omega, Lib.hid (mod_down hxm.out), HI4, Lib.hid ⟨hf4.2.1, Int.le_trans hf4.2.2.1 hG.out.2.1, hG.out.2.2.trans ((FarI.ofBelow HB3.out).trans hf4.2.2.2)⟩, Lib.hid (hC1.out.mono hf4.2.2.1), Lib.hid (.inr (cov_next hC.out hc4 hf4.2.2.1))⟩)
              (case measure => exact down_left m1.1 x0))
          · have HCE : Hid (CovP m f xs (r + 1) l (sqs zs)) := Lib.hid (CovP.of (by rw [HR.out]; exact hC1.out) (by rw [HR.out]; exact cov_end hC.out (by rw [HS.out, HE1.out, hBd.out, e2]; exact hle)))
            go_wp2
            first | go_end0 | (simp only [Exit.inBlock, Exit.then]; refine bodyPost_ret (results_none rfl _ _ _) rfl ?_) | refine bodyPost_ret (results_none rfl _ _ _) rfl ?_
            exact ⟨rfl, zs, ⟨hI.out.bs, hG.out.1, hG.out.2.1, hG.out.2.2⟩, HCE.out⟩
end Go.Proofs.Ythkgaldpajnjgaa

/-
  Contract of ShortestPoint. Conditions: a valid congruence, two or three elements.
-/
import Derived.Test.YthkgaldpajnjgaaP3
namespace Go.Proofs.Ythkgaldpajnjgaa
open Go.RowKit
set_option linter.unusedVariables false

theorem HasL.lit1 (x : Int) (w : World) : HasL w.heap.size (w.alloc (.cells #[.int .i64 x] 2)) (some ⟨w.heap.size, 0, none⟩) 1 [x] :=
  .inr ⟨_, rfl, Nat.le_refl _, World.ownsRow_lit (base := w.heap.size) (e := 2) (size := 1) w #[.int .i64 x] 1 (Nat.le_refl _) (by decide) rfl⟩
/-- The point with which the search begins. -/
def lastPt (dim : Nat) (m : Int) : List Int := (List.replicate dim 0).set (dim - 1) m
theorem lastPt_law {dim : Nat} {m f : Int} (hd : dim = 2 ∨ dim = 3) (hm : 0 < m) : (lastPt dim m).length = dim ∧ sqs (lastPt dim m) = m * m ∧ Good dim m f (lastPt dim m) := by
  have hlen : (lastPt dim m).length = dim := by simp [lastPt]
  refine ⟨hlen, ?_, hlen, ?_, ?_⟩
  · rcases hd with rfl | rfl
    · show sqs [0, m] = _; simp [sqs]
    · show sqs [0, 0, m] = _; simp [sqs]
  · intro i hi
    rw [hlen] at hi
    rcases hd with rfl | rfl
    · have e : i = 0 := by omega
      subst e
      show (m - f * 0) % m = 0
      simp
    · have e : i = 0 ∨ i = 1 := by omega
      rcases e with rfl | rfl
      · show ((0 : Int) - f * 0) % m = 0
        simp
      · show (m - f * 0) % m = 0
        simp
  · rcases hd with rfl | rfl
    · refine ⟨1, by show (1 : Nat) < 2; decide, hm, fun j hj => ?_⟩
      have e : j = 0 := by omega
      subst e; rfl
    · refine ⟨2, by show (2 : Nat) < 3; decide, hm, fun j hj => ?_⟩
      have e : j = 0 ∨ j = 1 := by omega
      rcases e with rfl | rfl <;> rfl
/-- No point that begins with a positive number and goes on by the drawn steps is shorter. -/
def LeastPt (dim : Nat) (m f : Int) (ys : List Int) : Prop := ∀ x ts, 0 < x → ts.length + 1 = dim → Foll m f x ts → sqs ys ≤ x * x + sqs ts
def LeastTo (dim : Nat) (m f X : Int) (B : Int) : Prop := ∀ x, 0 < x → x < X → ∀ ts, ts.length + 1 = dim → Foll m f x ts → B ≤ x * x + sqs ts
theorem LeastTo.start (dim : Nat) (m f B : Int) : LeastTo dim m f 0 B := fun x h1 h2 => by omega
theorem LeastTo.next {dim r : Nat} {m f X B B' : Int} (h : LeastTo dim m f X B) (hB : B' ≤ B) (hr : r + 1 = dim) (hc : CovP m f [X] r X B') : LeastTo dim m f (X + 1) B' := fun x h1 h2 ts h3 h4 => by
  by_cases e : x = X
  · subst e
    have := hc ts (by omega) h4 ⟨0, by simp, by simpa using h1, fun j hj => by omega⟩
    simpa [sqs] using this
  · exact Int.le_trans hB (h x h1 (by omega) ts h3 h4)
theorem LeastTo.fin {dim : Nat} {m f X : Int} {ys : List Int} (h : LeastTo dim m f X (sqs ys)) (h0 : 0 ≤ X) (hX : ¬ X * X ≤ sqs ys) : LeastPt dim m f ys := fun x ts h1 h2 h3 => by
  by_cases e : x < X
  · exact h x h1 e ts h2 h3
  · have h5 : X * X ≤ x * x := Int.mul_le_mul (by omega) (by omega) h0 (by omega)
    have := sqs_nonneg ts
    omega
theorem one_left {x : Int} (hx : x ≤ 100000) : (300000 - (x + 1)).toNat < (300000 - x).toNat := by omega
theorem BsAt.cells {w : World} {p : Nat} {ys : List Int} (h : BsAt w p (some ys)) : ∃ g c, w.cell? ⟨p, 0, none⟩ = some (.slice (some ⟨g, 0, none⟩) ys.length c) ∧ w.cell? ⟨p, 1, none⟩ = some (.int .i64 (sqs ys)) ∧ HasL (p + 1) w (some ⟨g, 0, none⟩) c ys := by
  obtain ⟨g, c, h1, h2, _⟩ := h
  exact ⟨g, c, h1.cell 0 rfl, h1.cell 1 rfl, h2⟩
theorem offer_first {m f : Int} {dim : Nat} (hd : dim = 2 ∨ dim = 3) (hm : 0 < m) (hm2 : m ≤ 100000) (g cap p base : Nat) (W w : World) (ho : OwnI .i64 base 2 W w (.slice (some ⟨g, 0, none⟩) dim cap) (lastPt dim m)) (hb : BsAt w p none) :
    Calls Try.prog 15 #[.pointer (some ⟨p, 0, none⟩), .slice (some ⟨g, 0, none⟩) dim cap] w fun e w' => e = .returned (.tuple #[]) ∧ ∃ ys, BsAt w' p (some ys) ∧ Good dim m f ys ∧ sqs ys ≤ m * m ∧ FarI p (p + 1) w w' := by
  obtain ⟨l1, l2, l3⟩ := lastPt_law (f := f) hd hm
  obtain ⟨a', c', hv', hh⟩ := ho.hasL
  simp only [Value.slice.injEq] at hv'
  obtain ⟨rfl, _, rfl⟩ := hv'
  have hmm : m * m ≤ 100000 * 100000 := Int.mul_le_mul (by omega) (by omega) (by omega) (by omega)
  have h := offer_any (lastPt dim m) _ cap _ p none w hh (by omega) (by omega) (small_of (by omega)) hb
  rw [l1] at h
  refine h.mono ?_
  rintro e w' ⟨rfl, best', hb', hof, hf⟩
  obtain ⟨ys, rfl, hle⟩ := hof.cov l3.2.2
  refine ⟨rfl, ys, hb', ?_, by omega, hf⟩
  rcases hof.from_ with h | ⟨h, _⟩
  · cases h
  · cases h; exact l3
set_option maxHeartbeats 4000000 in
set_option maxRecDepth 100000 in
theorem ShortestPoint_any (m f a : Int) (hv : vcB m f a = true) (dim : Nat) (hd : dim = 2 ∨ dim = 3) (w : World) :
    Calls Try.prog 7 #[.agg #[.int .i64 m, .int .i64 f, .int .i64 a], .int .i64 dim] w fun e w' => ∃ g cap ys, e = .returned (.tuple #[.slice (some ⟨g, 0, none⟩) dim cap, .int .i64 (sqs ys), .bool true]) ∧ HasL w.heap.size w' (some ⟨g, 0, none⟩) cap ys ∧ Good dim m f ys ∧ sqs ys ≤ m * m ∧ LeastPt dim m f ys ∧ Below w.heap.size w w' := by
  obtain ⟨m1, m2, m3⟩ := vcB_true hv
  have hdr : inR dim 2 3 = true := by rcases hd with rfl | rfl <;> rfl
  have hVC := fun w => ValidCongruence_any m f a w
  rw [hv] at hVC
  have hIR := fun w => inRange_of hdr w
  obtain ⟨r, hr⟩ : ∃ r, r + 1 = dim := ⟨dim - 1, by omega⟩
  have hd1 : (dim : Int) - 1 = (r : Int) := by omega
  have i0 : (0 : Int) ≤ (r : Int) := by omega
  have i1 : (r : Int) < (dim : Int) := by omega
  have hmm : m * m ≤ 100000 * 100000 := Int.mul_le_mul (by omega) (by omega) (by omega) (by omega)
  have HPt : Hid (∀ (p : Nat) (x : Int) (g c : Nat) (ys : List Int) (w : World) (q1 : Int), HasL (p + 1) w (some ⟨g, 0, none⟩) c [x] → x * x = q1 → q1 ≤ 10000000000 → BsAt w p (some ys) → Good dim m f ys → sqs ys ≤ m * m →
      Calls Try.prog 16 #[.pointer (some ⟨p, 0, none⟩), .agg #[.int .i64 m, .int .i64 f, .int .i64 a], .int .i64 (dim : Nat), .slice (some ⟨g, 0, none⟩) 1 c, .int .i64 q1] w fun e w' => e = .returned (.tuple #[]) ∧ ∃ ys', Found p dim m f ys w w' ys' ∧ CovP m f [x] r x (sqs ys')) := Lib.hid (by
    intro p x g c ys w q1 h hq hs hb hg hm
    have e : sqs [x] = q1 := by simp [sqs, hq]
    have h9 := points_any m f a hv dim p (by omega) r 0 [x] (some ⟨g, 0, none⟩) c ys w (by omega) rfl h (IsPt.one m f x) (by omega) hb hg hm
    rw [e] at h9
    exact h9)
  have HOf := Lib.hid (fun g cap p base W w ho hb => offer_first (m := m) (f := f) (dim := dim) hd (by omega) m1.2 g cap p base W w ho hb)
  have hd8 : dim ≤ 8 := by omega
  have HR := Lib.hid hr
  have HDm := Lib.hid hd
  clear hv hdr hd hr
  obtain ⟨q, hq⟩ : ∃ q, w.heap.size = q := ⟨_, rfl⟩
  obtain ⟨w0, hw0⟩ : ∃ w0, w.alloc (.cells #[.int .i64 m, .int .i64 f, .int .i64 a] 25) = w0 := ⟨_, rfl⟩
  have HQ : Hid (Blk w0 q (cgr m f a) 25) := Lib.hid (by rw [← hw0]; exact Blk.new' hq _ _)
  have HB0 : Hid (Below w.heap.size w w0) := Lib.hid (by rw [← hw0]; exact bw_alloc (bw_refl w) _)
  obtain ⟨c0, c1, c2, _⟩ := cgr_cells HQ.out
  rw [hq]
  go_enter Try.func7, Try.ntmps7
  go_upto_region 5 with (first
    | (go_at_call 13; (with_reducible refine (hVC _).mono ?_); rintro e w1 ⟨rfl, hb1⟩)
    | (go_at_call 14; (with_reducible refine (hIR _).mono ?_); rintro e w2 ⟨rfl, rfl⟩)
    | (at_make; refine wpMake tI rfl _ _ rfl dim rfl rfl rfl rfl (by decide) (by omega) ?_; intro w4 hown))
  clear c0 c1 c2 hVC hIR hw0
  obtain ⟨p, hp⟩ : ∃ p, w1.heap.size = p := ⟨_, rfl⟩
  obtain ⟨w3, hw3⟩ : ∃ w3, w1.alloc (.cells #[.slice none 0 0, .int .i64 0] 41) = w3 := ⟨_, rfl⟩
  have HS3 : Hid (BsAt w3 p none) := Lib.hid (by rw [← hw3]; exact Blk.new' hp _ _)
  have HQ3 : Hid (Blk w3 q (cgr m f a) 25) := Lib.hid (by rw [← hw3]; exact (HQ.out.later hb1).alloc _)
  have HB3 : Hid (Below w.heap.size w w3) := Lib.hid (by rw [← hw3]; exact bw_alloc (bw_call HB0.out hb1) _)
  have hsz3 : w3.heap.size = p + 1 := by rw [← hw3]; simp; exact hp
  rw [hw3, hsz3] at hown
  rw [hp]
  have hqp : q < p := by rw [← hp]; exact Nat.lt_of_lt_of_le HQ.out.lt hb1.size
  have HM := Lib.hid hown
  have HB4 : Hid (Below w3.heap.size w3 w4) := Lib.hid (by rw [hsz3]; exact hown.below)
  obtain ⟨c0, c1, c2, _⟩ := cgr_cells (HQ3.out.later HB4.out)
  obtain ⟨g', cap', hv', z1, z2, z3, z4, h5, h6⟩ := hown.cell
  simp only [Value.slice.injEq, Option.some.injEq, Addr.mk.injEq, and_true] at hv'
  obtain ⟨rfl, z5, rfl⟩ := hv'
  clear z1 z2 z3 z4 z5
  have k5 := h5 r (by simp; omega)
  have k6 := h6 r
  have hrd : r < dim := by omega
  have hz : (List.replicate dim (0 : Int)).getD r 0 = 0 := by simp [List.getD, hrd]
  rw [hz] at k5
  clear hz h5 h6 hown hb1 hw3 hp
  have HM5 : Hid (OwnI .i64 (p + 1) 2 w3 (w4.setCell ⟨p + 1, r, none⟩ (.int .i64 m)) (.slice (some ⟨p + 1, 0, none⟩) dim dim) (lastPt dim m)) := Lib.hid (by
    have h7 := HM.out
    have e : (List.replicate dim (0 : Int)).length = dim := List.length_replicate
    rw [show (Value.slice (some (⟨p + 1, 0, none⟩ : Addr)) dim dim) = .slice (some ⟨p + 1, 0, none⟩) (List.replicate dim (0 : Int)).length dim by rw [e]] at h7 ⊢
    have h8 := h7.stored r m
    have e2 : lastPt dim m = (List.replicate dim 0).set r m := by
      have := HR.out
      rw [lastPt, show dim - 1 = r by omega]
    rw [e2]
    exact h8)
  have HS5 : Hid (BsAt (w4.setCell ⟨p + 1, r, none⟩ (.int .i64 m)) p none) := Lib.hid (Blk.far (Blk.later HS3.out HB4.out) (by simp) _)
  have HQ5 : Hid (Blk (w4.setCell ⟨p + 1, r, none⟩ (.int .i64 m)) q (cgr m f a) 25) := Lib.hid (Blk.far (HQ3.out.later HB4.out) (by simp; omega) _)
  have HB5 : Hid (Below w.heap.size w (w4.setCell ⟨p + 1, r, none⟩ (.int .i64 m))) := Lib.hid (bw_setCell (bw_call HB3.out HB4.out) (by rw [hq]; simp; omega) _)
  have hqp' := Lib.hid hqp
  have hmm' := Lib.hid hmm
  have hof := Lib.hid (HOf.out (p + 1) dim p (p + 1) w3 _ HM5.out HS5.out)
  clear hrd hsz3 hqp hmm
  go_wp2_with fail
  clear c0 c1 c2 k5 k6
  have hqp : q < p := hqp'.out
  have hmm := hmm'.out
  refine hof.out.mono ?_
  rintro e w6 ⟨rfl, ys, hs6, hg6, hm6, hf6⟩
  have HS6 := Lib.hid hs6
  have HQ6 : Hid (Blk w6 q (cgr m f a) 25) := Lib.hid ((hf6.block q HQ5.out.lt (by omega)).trans HQ5.out)
  have HB6 : Hid (Below w.heap.size w w6) := Lib.hid (HB5.out.trans (hf6.below (by rw [hq]; omega) HB5.out.size))
  have HG6 := Lib.hid (And.intro hg6 hm6)
  clear hof hs6 hg6 hm6 hf6
  go_wp2
  go_loopw [9] (fun xv wr => ∃ (x : Int) (ys : List Int), xv = .int .i64 x ∧ 0 ≤ x ∧ x ≤ 200000 ∧ Hid (BsAt wr p (some ys)) ∧ Hid (Blk wr q (cgr m f a) 25) ∧ Hid (Good dim m f ys ∧ sqs ys ≤ m * m) ∧ Hid (Below w.heap.size w wr) ∧ Hid (LeastTo dim m f x (sqs ys))) (fun xv _ => (300000 - intOf xv).toNat)
  case atStart => exact ⟨0, ys, rfl, Int.le_refl _, by omega, HS6, HQ6, HG6, HB6, Lib.hid (LeastTo.start _ _ _ _)⟩
  case round =>
    obtain ⟨x, zs, rfl, x0, x1, hs, hQ, hG, hB, hL⟩ := hrel
    have hzB := Int.le_trans hG.out.2 hmm
    obtain ⟨q1, sv, e1, e2, e3, e4, e5, e6, e7, e8⟩ := sq_facts (x := x) (S := 0) (by omega) (by omega) (by omega) (by omega)
    obtain ⟨c0, c1, c2, _⟩ := cgr_cells hQ.out
    obtain ⟨gy, cy, k0, k1, hy⟩ := hs.out.cells
    have HY := Lib.hid hy
    have HE1 := Lib.hid e1
    obtain ⟨Bv, hBd⟩ : ∃ Bv, Hid (sqs zs = Bv) := ⟨_, Lib.hid rfl⟩
    have hzl := hG.out.1.1
    rw [hzl] at k0
    rw [hBd.out] at k1 hzB
    clear e2 sv e6 e8 hy hzl
    by_cases hle : q1 ≤ Bv
    · have hx5 := root_bd (x := x) (S := 0) (s := q1) (M := 100000) (by rw [HE1.out]; omega) (by omega) hle hzB (by omega)
      have hpt := fun w h hb => HPt.out p x wr.heap.size 1 zs w q1 h HE1.out (by omega) hb hG.out.1 hG.out.2
      have hpl := hs.out.lt
      go_wp2_with fail
      refine (hpt _ ((HasL.lit1 x wr).mono (by omega)) (hs.out.later (bw_alloc (bw_refl _) _))).mono ?_
      rintro e w7 ⟨rfl, ys', hf7, hc7⟩
      have HQ7 : Hid (Blk w7 q (cgr m f a) 25) := Lib.hid ((hf7.2.2.2.block q (by have := hQ.out.lt; simp; omega) (by omega)).trans (hQ.out.alloc _))
      have HB7 : Hid (Below w.heap.size w w7) := Lib.hid ((bw_alloc hB.out _).trans (hf7.2.2.2.below (by rw [hq]; omega) (bw_alloc hB.out _).size))
      have HF7 := Lib.hid (And.intro hf7 hc7)
      clear hf7 hc7 hpt
      go_wp2
      go_roundw
      case rel => exact ⟨x + 1, ys', rfl, by omega, by omega, Lib.hid HF7.out.1.1, HQ7, Lib.hid ⟨HF7.out.1.2.1, Int.le_trans HF7.out.1.2.2.1 hG.out.2⟩, HB7, Lib.hid (hL.out.next HF7.out.1.2.2.1 HR.out HF7.out.2)⟩
      case measure => exact one_left hx5.2
    · have HLp := Lib.hid (hL.out.fin x0 (by rw [HE1.out, hBd.out]; exact hle))
      go_wp2
      go_quiet (fail)
      go_wp2
      go_ret3
      exact ⟨gy, cy, zs, by rw [hBd.out]; rfl, (HY.out.mono (by omega)).later (by first | exact bw_drewN (bw_refl _) _ | exact bw_drew (bw_refl _) | exact bw_refl _), hG.out.1, hG.out.2, HLp.out, by rw [← hq]; first | exact bw_drewN hB.out _ | exact bw_drew hB.out | exact hB.out⟩
end Go.Proofs.Ythkgaldpajnjgaa

/-
  Contracts of the powers of a congruence, and of jumps. Conditions stand in each contract (valid arguments).
-/
import Derived.Test.YtifigkkghfjhpaaC10
namespace Go.Proofs.Ytifigkkghfjhpaa
open Go.RowKit
set_option linter.unusedVariables false

/-- A congruence in a block. -/
def cgr (m f a : Int) : Array Value := #[.int .i64 m, .int .i64 f, .int .i64 a]
theorem cgr_cells {w : World} {b : Nat} {m f a : Int} {t : TypeId} (h : Blk w b (cgr m f a) t) :
    w.cell? ⟨b, 0, none⟩ = some (.int .i64 m) ∧ w.cell? ⟨b, 1, none⟩ = some (.int .i64 f) ∧ w.cell? ⟨b, 2, none⟩ = some (.int .i64 a) ∧ w.frozen? ⟨b, 0, none⟩ = false ∧ w.frozen? ⟨b, 1, none⟩ = false ∧ w.frozen? ⟨b, 2, none⟩ = false :=
  ⟨h.cell 0 rfl, h.cell 1 rfl, h.cell 2 rfl, h.free 0, h.free 1, h.free 2⟩
theorem then_pow {m : Int} (f a : Int) (k J : Nat) (w : World) (hm : 2 ≤ m ∧ m ≤ 100000) :
    Calls Try.prog 76 #[.agg #[.int .i64 m, .int .i64 (pF m f k), .int .i64 (pA m f a k)], .agg #[.int .i64 m, .int .i64 (pF m f J), .int .i64 (pA m f a J)]] w
      fun e w' => e = .returned (.agg #[.int .i64 m, .int .i64 (pF m f (k + J)), .int .i64 (pA m f a (k + J))]) ∧ Below w.heap.size w w' := by
  have h := then_any m (pF m f k) (pA m f a k) (pF m f J) (pA m f a J) w (pow_vc hm k) (pow_vc hm J)
  rw [pF_add, pA_add hm.1] at h
  exact h
theorem l03Then_pow {m : Int} (f a : Int) (k J p q : Nat) {t : TypeId} (w : World) (hm : 2 ≤ m ∧ m ≤ 100000) (hp : Blk w p (cgr m (pF m f k) (pA m f a k)) t) (hq : Blk w q (cgr m (pF m f J) (pA m f a J)) t) :
    Calls Try.prog 75 #[.pointer (some ⟨p, 0, none⟩), .pointer (some ⟨q, 0, none⟩)] w
      fun e w' => e = .returned (.agg #[.int .i64 m, .int .i64 (pF m f (k + J)), .int .i64 (pA m f a (k + J))]) ∧ Below w.heap.size w w' := by
  obtain ⟨p0, p1, p2, _, _, _⟩ := cgr_cells hp
  obtain ⟨q0, q1, q2, _, _, _⟩ := cgr_cells hq
  have h := l03Then_any m (pF m f k) (pA m f a k) (pF m f J) (pA m f a J) p q w (pow_vc hm k) (pow_vc hm J) p0 p1 p2 q0 q1 q2
  rw [pF_add, pA_add hm.1] at h
  exact h
theorem power_any (m f a : Int) (N : Nat) (w : World) (h : vcB m f a = true) (hN : N ≤ 9223372036854775807) :
    Calls Try.prog 56 #[.agg #[.int .i64 m, .int .i64 f, .int .i64 a], .int .i64 N] w fun e w' => e = .returned (.agg #[.int .i64 m, .int .i64 (pF m f N), .int .i64 (pA m f a N)]) ∧ Below w.heap.size w w' := by
  obtain ⟨b1, b2, b3⟩ := vcB_true h
  have e1 : (1 : Int) % m = 1 := Int.emod_eq_of_lt (by omega) (by omega)
  have z0 := pF_zero (f := f) b1.1
  have z1 := pF_one (m := m) b2.1 b2.2
  have z2 := pA_zero m f a
  have z3 := pA_one (m := m) (f := f) b3.1 b3.2
  have Z0 := Lib.hid z0
  have Z1 := Lib.hid z1
  have Z2 := Lib.hid z2
  have Z3 := Lib.hid z3
  clear z0 z1 z2 z3 h
  go_enter Try.func56, Try.ntmps56
  go_wp2_with fail
  go_region
  all_goals go_wp2_with fail
  go_loopw [1] (fun v wr => ∃ (k J : Nat) (r : Int), 0 ≤ r ∧ r ≤ 9223372036854775807 ∧ v = .int .i64 r ∧ Hid ((k : Int) + J * r = N) ∧ Blk wr w.heap.size (cgr m (pF m f J) (pA m f a J)) 33 ∧ Blk wr (w.heap.size + 1) (cgr 0 0 0) 33 ∧
      Blk wr (w.heap.size + 1 + 1) (cgr m (pF m f k) (pA m f a k)) 33 ∧ Below w.heap.size w wr) (fun v _ => (intOf v).toNat)
  case atStart =>
    refine ⟨0, 1, N, by omega, by omega, rfl, Lib.hid (by omega), ?_, ?_, ?_, bw_drew (bw_alloc (bw_alloc (bw_alloc (bw_refl _) _) _) _)⟩
    · rw [Z1.out, Z3.out]; exact ((Blk.new w _ _).alloc _).alloc _
    · exact (Blk.new' (by simp) _ _).alloc _
    · rw [Z0.out, Z2.out, ← e1]; exact Blk.new' (by simp) _ _
  case round =>
    obtain ⟨k, J, r, r0, r1, rfl, hr, hA, hB, hC, hw⟩ := hrel
    have vJ := pow_vc (f := f) (a := a) b1 J
    have vk := pow_vc (f := f) (a := a) b1 k
    have HC := Lib.hid hC
    have HA := Lib.hid hA
    have HB := Lib.hid hB
    have HW := Lib.hid hw
    clear hC hA hB hw e1
    have ea := HW.out.size
    by_cases hz : r = 0
    · subst hz
      obtain ⟨c0, c1, c2, _, _, _⟩ := cgr_cells HC.out
      obtain ⟨d0, d1, d2, f0, f1, f2⟩ := cgr_cells HB.out
      go_wp2
      refine bodyPost_ret (v := .agg #[.int .i64 m, .int .i64 (pF m f k), .int .i64 (pA m f a k)]) (by simp [results, Try.results56, go_sem, d0, d1, d2]) rfl ⟨?_, ?_⟩
      · have ek : k = N := by have := hr.out; omega
        rw [ek]
      · exact bw_setCell (bw_setCell (bw_setCell HW.out (by simp) _) (by simp) _) (by simp) _
    · have hpos : 0 < r := by omega
      obtain ⟨a0, a1, a2, g0, g1, g2⟩ := cgr_cells HA.out
      obtain ⟨c0, c1, c2, f0, f1, f2⟩ := cgr_cells HC.out
      have lA := HA.out.lt
      have lC := HC.out.lt
      by_cases ho : r % 2 = 1
      · have HR := Lib.hid (dbl_odd hr.out ho)
        go_wp2_with fail
        refine (then_pow f a k J _ b1).mono ?_
        rintro e w1 ⟨rfl, hb1⟩
        have HA1 := Lib.hid (HA.out.later hb1)
        have HB1 := Lib.hid (HB.out.later hb1)
        have HC1 := Lib.hid (HC.out.later hb1)
        have HW1 := Lib.hid (bw_call HW.out hb1)
        have ls := hb1.size
        clear a0 a1 a2 g0 g1 g2 c0 c1 c2 f0 f1 f2 hb1
        obtain ⟨a0, a1, a2, g0, g1, g2⟩ := cgr_cells HA1.out
        obtain ⟨c0, c1, c2, f0, f1, f2⟩ := cgr_cells HC1.out
        have n0 : ¬ w.heap.size = w.heap.size + 1 + 1 := by omega
        go_wp2_with fail
        refine (then_pow f a J J _ b1).mono ?_
        rintro e w2 ⟨rfl, hb2⟩
        have hA2 := ((((HA1.out.far (a := ⟨w.heap.size + 1 + 1, 0, none⟩) (by simp; omega) (.int .i64 m)).far (a := ⟨w.heap.size + 1 + 1, 1, none⟩) (by simp; omega) (.int .i64 (pF m f (k + J)))).far (a := ⟨w.heap.size + 1 + 1, 2, none⟩) (by simp; omega) (.int .i64 (pA m f a (k + J))))).later hb2
        have hB2 := ((((HB1.out.far (a := ⟨w.heap.size + 1 + 1, 0, none⟩) (by simp) (.int .i64 m)).far (a := ⟨w.heap.size + 1 + 1, 1, none⟩) (by simp) (.int .i64 (pF m f (k + J)))).far (a := ⟨w.heap.size + 1 + 1, 2, none⟩) (by simp) (.int .i64 (pA m f a (k + J))))).later hb2
        have hC2 := (HC1.out.set3 (.int .i64 m) (.int .i64 (pF m f (k + J))) (.int .i64 (pA m f a (k + J)))).later hb2
        have hW2 := bw_call (bw_setCell (bw_setCell (bw_setCell HW1.out (p := ⟨w.heap.size + 1 + 1, 0, none⟩) (by simp; omega) (.int .i64 m)) (p := ⟨w.heap.size + 1 + 1, 1, none⟩) (by simp; omega) (.int .i64 (pF m f (k + J)))) (p := ⟨w.heap.size + 1 + 1, 2, none⟩) (by simp; omega) (.int .i64 (pA m f a (k + J)))) hb2
        have HA2 := Lib.hid hA2
        have HB2 := Lib.hid hB2
        have HC2 := Lib.hid hC2
        have HW2 := Lib.hid hW2
        clear hA2 hB2 hC2 hW2 hb2 a0 a1 a2 g0 g1 g2 c0 c1 c2 f0 f1 f2
        obtain ⟨a0, a1, a2, g0, g1, g2⟩ := cgr_cells HA2.out
        go_wp2
        go_roundw
        case rel => exact ⟨k + J, J + J, r / 2, by omega, by omega, rfl, Lib.hid HR.out, HA2.out.set3 _ _ _, (((HB2.out.far (by simp) _).far (by simp) _).far (by simp) _), (((HC2.out.far (by simp; omega) _).far (by simp; omega) _).far (by simp; omega) _), bw_setCell (bw_setCell (bw_setCell HW2.out (by simp) _) (by simp) _) (by simp) _⟩
        case measure => simp [intOf]; omega
      · have he : r % 2 = 0 := by omega
        have HR := Lib.hid (dbl_even hr.out he)
        go_wp2_with fail
        refine (then_pow f a J J _ b1).mono ?_
        rintro e w2 ⟨rfl, hb2⟩
        have HA2 := Lib.hid (HA.out.later hb2)
        have HB2 := Lib.hid (HB.out.later hb2)
        have HC2 := Lib.hid (HC.out.later hb2)
        have HW2 := Lib.hid (bw_call HW.out hb2)
        clear a0 a1 a2 g0 g1 g2 c0 c1 c2 f0 f1 f2 hb2
        obtain ⟨a0, a1, a2, g0, g1, g2⟩ := cgr_cells HA2.out
        go_wp2
        go_roundw
        case rel => exact ⟨k, J + J, r / 2, by omega, by omega, rfl, Lib.hid HR.out, HA2.out.set3 _ _ _, (((HB2.out.far (by simp) _).far (by simp) _).far (by simp) _), (((HC2.out.far (by simp; omega) _).far (by simp; omega) _).far (by simp; omega) _), bw_setCell (bw_setCell (bw_setCell HW2.out (by simp) _) (by simp) _) (by simp) _⟩
        case measure => simp [intOf]; omega
theorem l03Power_any (m f a : Int) (N : Nat) (p : Nat) (w : World) (p0 : w.cell? ⟨p, 0, none⟩ = some (.int .i64 m)) (p1 : w.cell? ⟨p, 1, none⟩ = some (.int .i64 f)) (p2 : w.cell? ⟨p, 2, none⟩ = some (.int .i64 a)) (h : vcB m f a = true) (hN : N ≤ 9223372036854775807) :
    Calls Try.prog 53 #[.pointer (some ⟨p, 0, none⟩), .int .i64 N] w fun e w' => e = .returned (.agg #[.int .i64 m, .int .i64 (pF m f N), .int .i64 (pA m f a N)]) ∧ Below w.heap.size w w' := by
  obtain ⟨b1, b2, b3⟩ := vcB_true h
  have z0 := pF_zero (f := f) b1.1
  have z1 := pF_one (m := m) b2.1 b2.2
  have z2 := pA_zero m f a
  have z3 := pA_one (m := m) (f := f) b3.1 b3.2
  have Z0 := Lib.hid z0
  have Z1 := Lib.hid z1
  have Z2 := Lib.hid z2
  have Z3 := Lib.hid z3
  clear z0 z1 z2 z3 h
  have lp := World.block_lt_of_cell? w _ p0
  simp only at lp
  have n0 : ¬ p = w.heap.size := by omega
  have n1 : ¬ p = w.heap.size + 1 := by omega
  go_enter Try.func53, Try.ntmps53
  go_wp2_with fail
  go_loopw [1] (fun v wr => ∃ (k J : Nat) (r : Int), 0 ≤ r ∧ r ≤ 9223372036854775807 ∧ v = .int .i64 r ∧ Hid ((k : Int) + J * r = N) ∧ Blk wr (w.heap.size + 1 + 1) (cgr m (pF m f J) (pA m f a J)) 33 ∧ Blk wr w.heap.size (cgr 0 0 0) 33 ∧
      Blk wr (w.heap.size + 1) (cgr m (pF m f k) (pA m f a k)) 33 ∧ Below w.heap.size w wr) (fun v _ => (intOf v).toNat)
  case atStart =>
    refine ⟨0, 1, N, by omega, by omega, rfl, Lib.hid (by omega), ?_, ?_, ?_, bw_alloc (bw_alloc (bw_alloc (bw_refl _) _) _) _⟩
    · rw [Z1.out, Z3.out]; exact Blk.new' (by simp) _ _
    · exact ((Blk.new w _ _).alloc _).alloc _
    · rw [Z0.out, Z2.out]; exact (Blk.new' (by simp) _ _).alloc _
  case round =>
    obtain ⟨k, J, r, r0, r1, rfl, hr, hA, hB, hC, hw⟩ := hrel
    have vJ := pow_vc (f := f) (a := a) b1 J
    have vk := pow_vc (f := f) (a := a) b1 k
    have HC := Lib.hid hC
    have HA := Lib.hid hA
    have HB := Lib.hid hB
    have HW := Lib.hid hw
    clear hC hA hB hw p0 p1 p2
    have ea := HW.out.size
    by_cases hz : r = 0
    · subst hz
      obtain ⟨c0, c1, c2, _, _, _⟩ := cgr_cells HC.out
      obtain ⟨d0, d1, d2, f0, f1, f2⟩ := cgr_cells HB.out
      go_wp2
      refine bodyPost_ret (v := .agg #[.int .i64 m, .int .i64 (pF m f k), .int .i64 (pA m f a k)]) (by simp [results, Try.results53, go_sem, d0, d1, d2]) rfl ⟨?_, ?_⟩
      · have ek : k = N := by have := hr.out; omega
        rw [ek]
      · exact bw_setCell (bw_setCell (bw_setCell HW.out (by simp) _) (by simp) _) (by simp) _
    · have hpos : 0 < r := by omega
      obtain ⟨a0, a1, a2, g0, g1, g2⟩ := cgr_cells HA.out
      obtain ⟨c0, c1, c2, f0, f1, f2⟩ := cgr_cells HC.out
      have lA := HA.out.lt
      have lC := HC.out.lt
      by_cases ho : r % 2 = 1
      · have HR := Lib.hid (dbl_odd hr.out ho)
        go_wp2_with fail
        refine (l03Then_pow f a k J _ _ _ b1 HC.out HA.out).mono ?_
        rintro e w1 ⟨rfl, hb1⟩
        have HA1 := Lib.hid (HA.out.later hb1)
        have HB1 := Lib.hid (HB.out.later hb1)
        have HC1 := Lib.hid (HC.out.later hb1)
        have HW1 := Lib.hid (bw_call HW.out hb1)
        clear a0 a1 a2 g0 g1 g2 c0 c1 c2 f0 f1 f2 hb1
        obtain ⟨c0, c1, c2, f0, f1, f2⟩ := cgr_cells HC1.out
        have HA2 := Lib.hid (((HA1.out.far (a := ⟨w.heap.size + 1, 0, none⟩) (by simp) (.int .i64 m)).far (a := ⟨w.heap.size + 1, 1, none⟩) (by simp) (.int .i64 (pF m f (k + J)))).far (a := ⟨w.heap.size + 1, 2, none⟩) (by simp) (.int .i64 (pA m f a (k + J))))
        have HB2 := Lib.hid (((HB1.out.far (a := ⟨w.heap.size + 1, 0, none⟩) (by simp) (.int .i64 m)).far (a := ⟨w.heap.size + 1, 1, none⟩) (by simp) (.int .i64 (pF m f (k + J)))).far (a := ⟨w.heap.size + 1, 2, none⟩) (by simp) (.int .i64 (pA m f a (k + J))))
        have HC2 := Lib.hid (HC1.out.set3 (.int .i64 m) (.int .i64 (pF m f (k + J))) (.int .i64 (pA m f a (k + J))))
        have HW2 := Lib.hid (bw_setCell (bw_setCell (bw_setCell HW1.out (p := ⟨w.heap.size + 1, 0, none⟩) (by simp) (.int .i64 m)) (p := ⟨w.heap.size + 1, 1, none⟩) (by simp) (.int .i64 (pF m f (k + J)))) (p := ⟨w.heap.size + 1, 2, none⟩) (by simp) (.int .i64 (pA m f a (k + J))))
        go_wp2_with fail
        refine (l03Then_pow f a J J _ _ _ b1 HA2.out HA2.out).mono ?_
        rintro e w2 ⟨rfl, hb2⟩
        have HA3 := Lib.hid (HA2.out.later hb2)
        have HB3 := Lib.hid (HB2.out.later hb2)
        have HC3 := Lib.hid (HC2.out.later hb2)
        have HW3 := Lib.hid (bw_call HW2.out hb2)
        clear HA1 HB1 HC1 HW1 HA2 HB2 HC2 HW2 hb2 c0 c1 c2 f0 f1 f2
        obtain ⟨a0, a1, a2, g0, g1, g2⟩ := cgr_cells HA3.out
        go_wp2
        go_roundw
        case rel => exact ⟨k + J, J + J, r / 2, by omega, by omega, rfl, Lib.hid HR.out, HA3.out.set3 _ _ _, (((HB3.out.far (by simp; omega) _).far (by simp; omega) _).far (by simp; omega) _), (((HC3.out.far (by simp) _).far (by simp) _).far (by simp) _), bw_setCell (bw_setCell (bw_setCell HW3.out (by simp; omega) _) (by simp; omega) _) (by simp; omega) _⟩
        case measure => simp [intOf]; omega
      · have he : r % 2 = 0 := by omega
        have HR := Lib.hid (dbl_even hr.out he)
        go_wp2_with fail
        refine (l03Then_pow f a J J _ _ _ b1 HA.out HA.out).mono ?_
        rintro e w2 ⟨rfl, hb2⟩
        have HA3 := Lib.hid (HA.out.later hb2)
        have HB3 := Lib.hid (HB.out.later hb2)
        have HC3 := Lib.hid (HC.out.later hb2)
        have HW3 := Lib.hid (bw_call HW.out hb2)
        clear a0 a1 a2 g0 g1 g2 c0 c1 c2 f0 f1 f2 hb2
        obtain ⟨a0, a1, a2, g0, g1, g2⟩ := cgr_cells HA3.out
        go_wp2
        go_roundw
        case rel => exact ⟨k, J + J, r / 2, by omega, by omega, rfl, Lib.hid HR.out, HA3.out.set3 _ _ _, (((HB3.out.far (by simp; omega) _).far (by simp; omega) _).far (by simp; omega) _), (((HC3.out.far (by simp) _).far (by simp) _).far (by simp) _), bw_setCell (bw_setCell (bw_setCell HW3.out (by simp; omega) _) (by simp; omega) _) (by simp; omega) _⟩
        case measure => simp [intOf]; omega
end Go.Proofs.Ytifigkkghfjhpaa

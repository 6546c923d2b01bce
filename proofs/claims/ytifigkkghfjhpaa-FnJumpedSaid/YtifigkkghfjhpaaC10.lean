/-
  Contracts of the composition of congruences, their powers and jumps. Conditions stand in each contract (valid arguments).
-/
import Derived.Test.YtifigkkghfjhpaaM3
import Derived.Test.YtifigkkghfjhpaaBlk
import Derived.Deep.RegionHeld3
import Derived.RegionTactic
import Derived.BigRegion
import Derived.ChangeAlike
namespace Go.Proofs.Ytifigkkghfjhpaa
open Go.RowKit
set_option linter.unusedVariables false

theorem then_any (m f1 a1 f2 a2 : Int) (w : World) (h1 : vcB m f1 a1 = true) (h2 : vcB m f2 a2 = true) :
    Calls Try.prog 76 #[.agg #[.int .i64 m, .int .i64 f1, .int .i64 a1], .agg #[.int .i64 m, .int .i64 f2, .int .i64 a2]] w fun e w' => e = .returned (.agg #[.int .i64 m, .int .i64 (thF m f1 f2), .int .i64 (thA m a1 f2 a2)]) ∧ Below w.heap.size w w' := by
  obtain ⟨b1, b2, b3⟩ := vcB_true h1
  obtain ⟨c1, c2, c3⟩ := vcB_true h2
  have hp := mul_bd b1.2 b2.1 b2.2 c2.1 c2.2
  have hn : nsB m f2 a2 a1 = true := by simp [nsB, h2, inR_mk b3.1 b3.2]
  have HN := Lib.hid hn
  clear hn h1 h2
  have l0 : w.heap.size < w.heap.size + 1 + 1 + 1 := by omega
  have l1 : w.heap.size + 1 < w.heap.size + 1 + 1 + 1 := by omega
  have ew : IntKind.i64.wrap (f1 * f2) = f1 * f2 := IntWalk.i64_in _ (by omega)
  have et : (f1 * f2).tmod m = thF m f1 f2 := Int.tmod_eq_emod_of_nonneg hp.1
  have et' : f1 * f2 % m = thF m f1 f2 := rfl
  have hz : (m == 0) = false := by simp; omega
  have hz2 : ¬ m = 0 := by omega
  have t0 : 0 ≤ thF m f1 f2 := Int.emod_nonneg _ (by omega)
  have t1 : thF m f1 f2 < m := Int.emod_lt_of_pos _ (by omega)
  have ew2 : IntKind.i64.wrap (thF m f1 f2) = thF m f1 f2 := IntWalk.i64_in _ (by omega)
  have n0 : ¬ w.heap.size = w.heap.size + 1 + 1 := by omega
  have n1 : ¬ w.heap.size + 1 + 1 = w.heap.size := by omega
  go_enter Try.func76, Try.ntmps76
  go_wp2_with fail
  go_region_held3 (fun w' => w'.cell? ⟨w.heap.size, 0, none⟩ = some (.int .i64 m) ∧ w'.cell? ⟨w.heap.size, 1, none⟩ = some (.int .i64 f1) ∧ w'.cell? ⟨w.heap.size, 2, none⟩ = some (.int .i64 a1) ∧
      w'.cell? ⟨w.heap.size + 1, 0, none⟩ = some (.int .i64 m) ∧ w'.cell? ⟨w.heap.size + 1, 1, none⟩ = some (.int .i64 f2) ∧ w'.cell? ⟨w.heap.size + 1, 2, none⟩ = some (.int .i64 a2)) (go_keep)
    (first | (go_at_call 57; refine (step_any m f2 a2 a1 _ HN.out).mono ?_; rintro e w1 ⟨rfl, hb⟩; obtain ⟨hc, hf⟩ := bcell hb))
  go_wp2
  exact bodyPost_ret (v := .agg #[.int .i64 m, .int .i64 (thF m f1 f2), .int .i64 (stp m f2 a2 a1)]) (by simp [results, Try.results76, go_sem, hc]) rfl
    ⟨rfl, bw_setCell (bw_setCell (bw_setCell (bw_call (bw_drew (bw_alloc (bw_alloc (bw_alloc (bw_refl _) _) _) _)) hb) (by simp; omega) _) (by simp; omega) _) (by simp; omega) _⟩
theorem l03Then_any (m f1 a1 f2 a2 : Int) (p q : Nat) (w : World) (h1 : vcB m f1 a1 = true) (h2 : vcB m f2 a2 = true)
    (p0 : w.cell? ⟨p, 0, none⟩ = some (.int .i64 m)) (p1 : w.cell? ⟨p, 1, none⟩ = some (.int .i64 f1)) (p2 : w.cell? ⟨p, 2, none⟩ = some (.int .i64 a1))
    (q0 : w.cell? ⟨q, 0, none⟩ = some (.int .i64 m)) (q1 : w.cell? ⟨q, 1, none⟩ = some (.int .i64 f2)) (q2 : w.cell? ⟨q, 2, none⟩ = some (.int .i64 a2)) :
    Calls Try.prog 75 #[.pointer (some ⟨p, 0, none⟩), .pointer (some ⟨q, 0, none⟩)] w fun e w' => e = .returned (.agg #[.int .i64 m, .int .i64 (thF m f1 f2), .int .i64 (thA m a1 f2 a2)]) ∧ Below w.heap.size w w' := by
  obtain ⟨b1, b2, b3⟩ := vcB_true h1
  obtain ⟨c1, c2, c3⟩ := vcB_true h2
  have hp := mul_bd b1.2 b2.1 b2.2 c2.1 c2.2
  have hq := mul_bd b1.2 c2.1 c2.2 b3.1 b3.2
  clear h1 h2
  have lp := World.block_lt_of_cell? w _ p0
  have lq := World.block_lt_of_cell? w _ q0
  simp only at lp lq
  have ew : IntKind.i64.wrap (f1 * f2) = f1 * f2 := IntWalk.i64_in _ (by omega)
  have et : (f1 * f2).tmod m = thF m f1 f2 := Int.tmod_eq_emod_of_nonneg hp.1
  have et' : f1 * f2 % m = thF m f1 f2 := rfl
  have ev : IntKind.i64.wrap (f2 * a1) = f2 * a1 := IntWalk.i64_in _ (by omega)
  have ev2 : IntKind.i64.wrap (f2 * a1 + a2) = f2 * a1 + a2 := IntWalk.i64_in _ (by omega)
  have eu : (f2 * a1 + a2).tmod m = thA m a1 f2 a2 := Int.tmod_eq_emod_of_nonneg (by omega)
  have eu' : (f2 * a1 + a2) % m = thA m a1 f2 a2 := rfl
  have hz : (m == 0) = false := by simp; omega
  have hz2 : ¬ m = 0 := by omega
  have t0 : 0 ≤ thF m f1 f2 := Int.emod_nonneg _ (by omega)
  have t1 : thF m f1 f2 < m := Int.emod_lt_of_pos _ (by omega)
  have u0 : 0 ≤ thA m a1 f2 a2 := Int.emod_nonneg _ (by omega)
  have u1 : thA m a1 f2 a2 < m := Int.emod_lt_of_pos _ (by omega)
  have ew2 : IntKind.i64.wrap (thF m f1 f2) = thF m f1 f2 := IntWalk.i64_in _ (by omega)
  have ew3 : IntKind.i64.wrap (thA m a1 f2 a2) = thA m a1 f2 a2 := IntWalk.i64_in _ (by omega)
  have n0 : ¬ p = w.heap.size := by omega
  have n1 : ¬ q = w.heap.size := by omega
  go_enter Try.func75, Try.ntmps75
  go_wp2_with fail
  go_region_held3 (fun w' => w'.cell? ⟨p, 0, none⟩ = some (.int .i64 m) ∧ w'.cell? ⟨p, 1, none⟩ = some (.int .i64 f1) ∧ w'.cell? ⟨p, 2, none⟩ = some (.int .i64 a1) ∧
      w'.cell? ⟨q, 0, none⟩ = some (.int .i64 m) ∧ w'.cell? ⟨q, 1, none⟩ = some (.int .i64 f2) ∧ w'.cell? ⟨q, 2, none⟩ = some (.int .i64 a2)) (go_keep) (first | fail)
  go_wp2
  exact bodyPost_ret (v := .agg #[.int .i64 m, .int .i64 (thF m f1 f2), .int .i64 (thA m a1 f2 a2)]) (by simp [results, Try.results75, go_sem]) rfl
    ⟨rfl, bw_drew (bw_alloc (bw_refl _) _)⟩
end Go.Proofs.Ytifigkkghfjhpaa

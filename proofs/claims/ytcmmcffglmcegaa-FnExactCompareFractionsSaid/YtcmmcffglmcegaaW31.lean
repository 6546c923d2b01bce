/-
  Walk of the law FnExactCompareFractions: it returns true for every argument. No condition.
-/
import Derived.Test.YtcmmcffglmcegaaS5
namespace Go.Proofs.Ytcmmcffglmcegaa
open Go.RowKit
set_option linter.unusedVariables false

set_option maxRecDepth 100000 in
set_option maxHeartbeats 2000000 in
theorem FnExactCompareFractions_walk (n d m e : Int) (w : World) (w_n : (Lit.int .i64 n).wf = true) (w_d : (Lit.int .i64 d).wf = true) (w_m : (Lit.int .i64 m).wf = true) (w_e : (Lit.int .i64 e).wf = true) :
    Calls Try.prog 4 #[.agg #[.int .i64 n, .int .i64 d], .agg #[.int .i64 m, .int .i64 e]] w fun r w' => r = .returned (.bool true) ∧ Below w.heap.size w w' := by
  clear w_n w_d w_m w_e
  obtain ⟨p, hp⟩ : ∃ p, Hid (cpV n d m e = p) := ⟨_, Lib.hid rfl⟩
  obtain ⟨b, hb⟩ : ∃ p, Hid (cpB n d m e = p) := ⟨_, Lib.hid rfl⟩
  go_enter Try.func4, Try.ntmps4
  go_wp2_with fail
  go_region_held3 (fun w' => w'.cell? ⟨w.heap.size, 0, none⟩ = some (.int .i64 n) ∧ w'.cell? ⟨w.heap.size, 1, none⟩ = some (.int .i64 d) ∧ w'.cell? ⟨w.heap.size + 1, 0, none⟩ = some (.int .i64 m) ∧ w'.cell? ⟨w.heap.size + 1, 1, none⟩ = some (.int .i64 e)) (go_keep)
    (first
      | (go_at_call 10; (with_reducible refine (toFraction_any n d _).mono ?_); rintro r u1 ⟨rfl, hu1⟩
         have X1 : Blk u1 w.heap.size #[.int .i64 n, .int .i64 d] 23 := (((Blk.new w _ _).alloc _).drew).later hu1
         have Y1 : Blk u1 (w.heap.size + 1) #[.int .i64 m, .int .i64 e] 23 := ((Blk.new' (by simp) _ _).drew).later hu1
         have Z1 := bw_call (bw_drew (bw_alloc (bw_alloc (bw_refl w) _) _)) hu1
         have a1 := X1.cell 0 rfl; have a2 := X1.cell 1 rfl; have a3 := Y1.cell 0 rfl; have a4 := Y1.cell 1 rfl)
      | (go_at_call 10; (with_reducible refine (toFraction_any m e _).mono ?_); rintro r u2 ⟨rfl, hu2⟩
         have X2 := X1.later hu2; have Y2 := Y1.later hu2; have Z2 := bw_call Z1 hu2
         have b1 := X2.cell 0 rfl; have b2 := X2.cell 1 rfl; have b3 := Y2.cell 0 rfl; have b4 := Y2.cell 1 rfl)
      | (go_at_call 13; refine (sCompareFractions_any n d m e _).mono ?_; rw [hp.out, hb.out]; rintro r u3 ⟨rfl, hu3⟩
         have X3 := X2.later hu3; have Y3 := Y2.later hu3; have Z3 := bw_call Z2 hu3
         have c1 := X3.cell 0 rfl; have c2 := X3.cell 1 rfl; have c3 := Y3.cell 0 rfl; have c4 := Y3.cell 1 rfl))
  clear X1 Y1 Z1 X2 Y2 Z2 a1 a2 a3 a4 b1 b2 b3 b4 hu1 hu2 hu3
  go_wp2_with fail
  go_region_held3 (fun w' => w'.cell? ⟨w.heap.size, 0, none⟩ = some (.int .i64 n) ∧ w'.cell? ⟨w.heap.size, 1, none⟩ = some (.int .i64 d) ∧ w'.cell? ⟨w.heap.size + 1, 0, none⟩ = some (.int .i64 m) ∧ w'.cell? ⟨w.heap.size + 1, 1, none⟩ = some (.int .i64 e)) (go_keep)
    (first
      | (go_at_call 10; (with_reducible refine (toFraction_any n d _).mono ?_); rintro r u1 ⟨rfl, hu1⟩
         have X1 := X3.drew.later hu1; have Y1 := Y3.drew.later hu1; have Z1 := bw_call (bw_drew Z3) hu1
         have a1 := X1.cell 0 rfl; have a2 := X1.cell 1 rfl; have a3 := Y1.cell 0 rfl; have a4 := Y1.cell 1 rfl)
      | (go_at_call 10; (with_reducible refine (toFraction_any m e _).mono ?_); rintro r u2 ⟨rfl, hu2⟩
         have X2 := X1.later hu2; have Y2 := Y1.later hu2; have Z2 := bw_call Z1 hu2
         have b1 := X2.cell 0 rfl; have b2 := X2.cell 1 rfl; have b3 := Y2.cell 0 rfl; have b4 := Y2.cell 1 rfl)
      | (go_at_call 14; refine (CompareFractions_any n d m e _).mono ?_; rw [hp.out, hb.out]; rintro r u4 ⟨rfl, hu4⟩
         have X4 := X2.later hu4; have Y4 := Y2.later hu4; have Z4 := bw_call Z2 hu4
         have c1 := X4.cell 0 rfl; have c2 := X4.cell 1 rfl; have c3 := Y4.cell 0 rfl; have c4 := Y4.cell 1 rfl))
  go_wp2
  go_ret
  exact ⟨by simp, Z4⟩
end Go.Proofs.Ytcmmcffglmcegaa

/-
  Contract of the reference's B10Fraction. Conditions: the code is a row of bytes that came in.
-/
import Derived.Test.YthkmhpkoanmbkaaDoorN18
import Derived.Test.YthkmhpkoanmbkaaDoorC25
import Derived.Test.YthkmhpkoanmbkaaDoorC9
namespace Go.Proofs.YthkmhpkoanmbkaaDoor
open Go.RowKit
set_option linter.unusedVariables false

theorem Below.farI {B p : Nat} {w0 w w' : World} (h : Below B w0 w) (hf : FarI p (p + 1) w w') (hB : B ≤ p) (hw : B ≤ w.heap.size) : Below B w0 w' where
  os := hf.os.trans h.os
  tape := hf.tape.trans h.tape
  output := hf.output.trans h.output
  size := Nat.le_trans h.size hf.size
  block := fun k hk => (hf.block k (by omega) (by omega)).trans (h.block k hk)
theorem Blk.farI {b p : Nat} {cs : Array Value} {t : TypeId} {w w' : World} (h : Blk w b cs t) (hf : FarI p (p + 1) w w') (hb : b < p) : Blk w' b cs t := (hf.block b h.lt (by omega)).trans h
set_option maxRecDepth 100000 in
theorem B10Fraction_any (a : Option Addr) (len cap : Nat) (zs : List Int) (w : World) (h : IsRow .u8 w a len cap zs) :
    Calls Tryd.prog 5 #[.slice a len cap] w fun r w' => ∃ n d : Int, r = .returned (.agg #[.int .i64 (fmN n d), .int .i64 (fmD n d)]) ∧ (-20 ≤ n ∧ n ≤ 60000000) ∧ (1 ≤ d ∧ d ≤ 40) ∧ Below w.heap.size w w' := by
  have hcode := CodeAt.of h
  have HC := Lib.hid hcode
  clear hcode h
  go_enter Tryd.func5, Tryd.ntmps5
  go_wp2_with fail
  refine (l00From_any a len cap _).mono ?_
  rintro e w1 ⟨rfl, hs1, hb1, hz1⟩
  have hB1 := bw_call (bw_alloc (bw_refl w) _) hb1
  have HC1 := Lib.hid (HC.out.later hB1)
  have HB1 := Lib.hid hB1
  have E1 := Lib.hid (show Blk w1 w.heap.size #[.int .i64 0, .int .i64 0] 25 from (Blk.new w _ _).later hb1)
  simp at hs1 hz1
  have HS1 := Lib.hid hs1
  clear hs1 hb1 hB1
  go_wp2_with fail
  refine (pick_any 60 (w.heap.size + 1) w.heap.size a len cap zs 0 0 _ HS1.out HC1.out (Nat.le_succ _) (by omega) (by omega) (by omega)).mono ?_
  rintro e w2 ⟨x, sd, t, rfl, x0, x1, ht, hs, hf⟩
  have HS2 := Lib.hid hs
  have HF2 := Lib.hid hf
  have HC2 := Lib.hid (HC1.out.far hf (Nat.le_succ _))
  have e1 : IntKind.i64.wrap (x - 20) = x - 20 := by rw [IntKind.wrap_i64]; omega
  clear hs hf
  go_wp2_with fail
  refine (one_any 4 (w.heap.size + 1) w.heap.size a len cap zs t sd _ HS2.out HC2.out (Nat.le_succ _) (by omega) (by omega) (by omega)).mono ?_
  rintro e w3 ⟨b, sd3, t3, rfl, ht3, hs, hf⟩
  have HS3 := Lib.hid hs
  have HF3 := Lib.hid (HF2.out.trans hf)
  have HC3 := Lib.hid (HC2.out.far hf (Nat.le_succ _))
  clear hs hf
  cases b with
  | true =>
    go_wp2_with fail
    refine (pick_any 60000 (w.heap.size + 1) w.heap.size a len cap zs t3 sd3 _ HS3.out HC3.out (Nat.le_succ _) (by omega) (by omega) (by omega)).mono ?_
    rintro e w4 ⟨u, sd4, t4, rfl, u0, u1, ht4, hs, hf⟩
    have HS4 := Lib.hid hs
    have HF4 := Lib.hid (HF3.out.trans hf)
    have HC4 := Lib.hid (HC3.out.far hf (Nat.le_succ _))
    clear hs hf
    go_wp2_with fail
    refine (pick_any 1000 (w.heap.size + 1) w.heap.size a len cap zs t4 sd4 _ HS4.out HC4.out (Nat.le_succ _) (by omega) (by omega) (by omega)).mono ?_
    rintro e w5 ⟨v, sd5, t5, rfl, v0, v1, ht5, hs, hf⟩
    have HS5 := Lib.hid hs
    have HF5 := Lib.hid (HF4.out.trans hf)
    have HC5 := Lib.hid (HC4.out.far hf (Nat.le_succ _))
    clear hs hf
    have uv0 : 0 ≤ u * v := Int.mul_nonneg u0 v0
    have uv1 : u * v ≤ 60000 * 1000 := Int.mul_le_mul (by omega) (by omega) v0 (by omega)
    have e2 : IntKind.i64.wrap (u * v) = u * v := by rw [IntKind.wrap_i64]; omega
    go_wp2_with fail
    refine (pick_any 40 (w.heap.size + 1) w.heap.size a len cap zs t5 sd5 _ HS5.out HC5.out (Nat.le_succ _) (by omega) (by omega) (by omega)).mono ?_
    rintro e w6 ⟨y, sd6, t6, rfl, y0, y1, ht6, hs, hf⟩
    have HF6 := Lib.hid (HF5.out.trans hf)
    have e3 : IntKind.i64.wrap (1 + y) = 1 + y := by rw [IntKind.wrap_i64]; omega
    clear hs hf
    go_wp2_with fail
    refine (l01FMake_any (u * v) (1 + y) _ ⟨by omega, by omega⟩ ⟨by omega, by omega⟩ (by omega)).mono ?_
    rintro e w7 ⟨rfl, hb7⟩
    have K7 := ((E1.out.farI HF6.out (by omega)).later hb7)
    have B7 := Lib.hid (bw_call (Below.farI HB1.out HF6.out (by omega) (by omega)) hb7)
    have g0 := K7.cell 0 rfl
    have g1 := K7.cell 1 rfl
    have f0 := K7.free 0
    have f1 := K7.free 1
    clear hb7
    go_wp2
    refine bodyPost_ret (v := .agg #[.int .i64 (fmN (u * v) (1 + y)), .int .i64 (fmD (u * v) (1 + y))]) (by simp [results, Tryd.results5, go_sem, g0, g1]) rfl ⟨_, _, rfl, ⟨by omega, by omega⟩, ⟨by omega, by omega⟩, ?_⟩
    repeat (first | exact B7.out | refine bw_setCell ?_ (by simp) _)
  | false =>
    go_wp2_with fail
    refine (pick_any 40 (w.heap.size + 1) w.heap.size a len cap zs t3 sd3 _ HS3.out HC3.out (Nat.le_succ _) (by omega) (by omega) (by omega)).mono ?_
    rintro e w6 ⟨y, sd6, t6, rfl, y0, y1, ht6, hs, hf⟩
    have HF6 := Lib.hid (HF3.out.trans hf)
    have e3 : IntKind.i64.wrap (1 + y) = 1 + y := by rw [IntKind.wrap_i64]; omega
    clear hs hf
    go_wp2_with fail
    refine (l01FMake_any (x - 20) (1 + y) _ ⟨by omega, by omega⟩ ⟨by omega, by omega⟩ (by omega)).mono ?_
    rintro e w7 ⟨rfl, hb7⟩
    have K7 := ((E1.out.farI HF6.out (by omega)).later hb7)
    have B7 := Lib.hid (bw_call (Below.farI HB1.out HF6.out (by omega) (by omega)) hb7)
    have g0 := K7.cell 0 rfl
    have g1 := K7.cell 1 rfl
    have f0 := K7.free 0
    have f1 := K7.free 1
    clear hb7
    go_wp2
    refine bodyPost_ret (v := .agg #[.int .i64 (fmN (x - 20) (1 + y)), .int .i64 (fmD (x - 20) (1 + y))]) (by simp [results, Tryd.results5, go_sem, g0, g1]) rfl ⟨_, _, rfl, ⟨by omega, by omega⟩, ⟨by omega, by omega⟩, ?_⟩
    repeat (first | exact B7.out | refine bw_setCell ?_ (by simp) _)
end Go.Proofs.YthkmhpkoanmbkaaDoor

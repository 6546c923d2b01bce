/-
  Blocks of digits: what clear, copy and a store make of them; trim in place. Conditions stand in each law.
-/
import Derived.Test.YthkmhpkoanmbkaaDoorN7
import Derived.Test.YthkmhpkoanmbkaaDoorN8
namespace Go.Proofs.YthkmhpkoanmbkaaDoor
open Go.RowKit
set_option linter.unusedVariables false

/-- Nothing but block g has turned. -/
structure Upd (g : Nat) (w w' : World) : Prop where
  os : w'.os = w.os
  tape : w'.tape = w.tape
  output : w'.output = w.output
  size : w'.heap.size = w.heap.size
  rest : ∀ i, i ≠ g → w'.heap[i]? = w.heap[i]?
theorem Upd.below {B g : Nat} {w w' : World} (h : Upd g w w') (hB : B ≤ g) : Below B w w' := ⟨h.os, h.tape, h.output, Nat.le_of_eq h.size.symm, fun k hk => h.rest k (by omega)⟩
theorem Upd.setCell (w : World) (g j : Nat) (v : Value) : Upd g w (w.setCell ⟨g, j, none⟩ v) := ⟨rfl, rfl, rfl, by simp [World.setCell], fun i hi => Below.heap_setCell w _ v i hi⟩
theorem Upd.setRow (w : World) (g : Nat) (cs : Array Value) : Upd g w (w.setRow g cs) := ⟨rfl, rfl, rfl, by simp [World.setRow], fun i hi => setRow_other w g i cs hi⟩
theorem HasU.upd {g : Nat} {w w' : World} {a : Option Addr} {c : Nat} {xs : List Int} (h : HasU w a c xs) (hu : Upd g w w') (hne : ∀ g' o, a = some ⟨g', o, none⟩ → g' ≠ g) : HasU w' a c xs :=
  ⟨h.1, h.2.1, h.2.2.1, fun g' o e => by
    obtain ⟨h1, h2⟩ := h.2.2.2 g' o e
    refine ⟨by rw [hu.size]; exact h1, fun j hj => ?_⟩
    rw [← h2 j hj]
    unfold World.cell?
    rw [hu.rest g' (hne g' o e)]⟩
theorem NatU.upd {g : Nat} {w w' : World} {a : Option Addr} {c : Nat} {xs : List Int} {m : Int} (h : NatU w a c xs m) (hu : Upd g w w') (hne : ∀ g' o, a = some ⟨g', o, none⟩ → g' ≠ g) : NatU w' a c xs m :=
  { h with has := h.has.upd hu hne }
theorem RowU.lt {w : World} {g : Nat} {xs : List Int} (h : RowU w g xs) : g < w.heap.size := (Array.getElem?_eq_some_iff.1 h).1
theorem RowU.later {w w' : World} {g : Nat} {xs : List Int} (h : RowU w g xs) (hb : Below w.heap.size w w') : RowU w' g xs := (hb.block g h.lt).trans h
theorem RowU.upd {g g' : Nat} {w w' : World} {xs : List Int} (h : RowU w g' xs) (hu : Upd g w w') (hne : g' ≠ g) : RowU w' g' xs := (hu.rest g' hne).trans h
theorem RowU.cell {w : World} {g : Nat} {xs : List Int} (h : RowU w g xs) (j : Nat) (hj : j < xs.length) : w.cell? ⟨g, j, none⟩ = some (.int .u32 (xs.getD j 0)) := by
  rw [cell_of_row _ _ _ _ _ _ h]
  simp [List.getD, hj]
theorem RowU.free {w : World} {g : Nat} {xs : List Int} (h : RowU w g xs) (j : Nat) : w.frozen? ⟨g, j, none⟩ = false := by
  unfold World.frozen?
  rw [h]
  simp
theorem RowU.set {w : World} {g : Nat} {xs : List Int} (h : RowU w g xs) (j : Nat) (z : Int) : RowU (w.setCell ⟨g, j, none⟩ (.int .u32 z)) g (xs.set j z) := by
  unfold RowU
  rw [heap_setCell_same w g j _ _ _ h]
  simp [List.map_set]
theorem RowU.hasU {w : World} {g : Nat} {xs : List Int} (h : RowU w g xs) (k n c : Nat) (hk : k + n ≤ xs.length) (hn : n ≤ c) (hc : c ≤ maxLen) : HasU w (some ⟨g, k, none⟩) c ((xs.drop k).take n) := by
  have l2 : ((xs.drop k).take n).length = n := by rw [List.length_take, List.length_drop]; omega
  refine ⟨by rw [l2]; exact hn, hc, fun e => (by cases e), fun g' o e => ?_⟩
  simp only [Option.some.injEq, Addr.mk.injEq, and_true] at e
  obtain ⟨rfl, rfl⟩ := e
  refine ⟨h.lt, fun j hj => ?_⟩
  rw [l2] at hj
  rw [h.cell (k + j) (by omega), getD_take _ _ _ hj, getD_drop]
theorem RowU.hasAll {w : World} {g : Nat} {xs : List Int} (h : RowU w g xs) (c : Nat) (hn : xs.length ≤ c) (hc : c ≤ maxLen) : HasU w (some ⟨g, 0, none⟩) c xs := by
  have := h.hasU 0 xs.length c (by omega) hn hc
  simpa using this
theorem map_splice (xs cs : List Int) (k : Nat) : splice (xs.map (Value.int .u32)) k (cs.map (Value.int .u32)) = (splice xs k cs).map (Value.int .u32) := by
  simp [splice, List.map_take, List.map_drop]
theorem run_clear_row (w : World) (ty : TypeId) (g off n c : Nat) (xs : List Int) (hr : RowU w g xs) (hn : 0 < n) (hfit : off + n ≤ xs.length) :
    (Builtin.clear_ #[47] ty #[.slice (some ⟨g, off, none⟩) n c]).run Tryd.prog w = .ok (.tuple #[]) (w.setRow g ((splice xs off (List.replicate n 0)).map (Value.int .u32)).toArray) := by
  have hv : ∀ w, (zeroValue 77).run Tryd.prog w = .ok (.int .u32 0) w := Tryd.zeroValue77
  have hzc : (Builtin.zeroCells (Value.int .u32 0).cells n).toList = List.replicate n (.int .u32 0) := by
    rw [show (Value.int .u32 0).cells = #[Value.int .u32 0] from rfl]
    simp [Builtin.zeroCells]
    apply List.ext_getElem
    · simp
    · intro i h1 h2
      simp [Nat.mod_one]
  have hst := run_storeCells_at Tryd.prog g off 77 (List.replicate n (Value.int .u32 0)) 0 _ w hr (by simp; omega) (by intro v hv'; rw [List.eq_of_mem_replicate hv']; rfl)
  have e : ((xs.map (Value.int .u32)).toArray.toList.take (off + 0) ++ List.replicate n (Value.int .u32 0) ++ (xs.map (Value.int .u32)).toArray.toList.drop (off + 0 + (List.replicate n (Value.int .u32 0)).length)) = (splice xs off (List.replicate n 0)).map (Value.int .u32) := by
    rw [← map_splice]
    simp [splice]
  rw [e] at hst
  obtain ⟨m, rfl⟩ : ∃ m, n = m + 1 := ⟨n - 1, by omega⟩
  simp [Builtin.clear_, run_underlying tU.under, hv, hzc, hst]
/-- 'clear(s)'. -/
theorem wpClear {ops : Array Oper} {rest : List Oper} {o : Oper} {a : Act} {Q : Exit → Act → World → Prop} (hgd : o.guard = none) (s : Operand)
    (ho : o.op = .call { callee := .builtin .clear, args := #[s], argTypes := #[47] }) {w : World} {g off n c : Nat} {xs : List Int} (hs : a.eval s = .slice (some ⟨g, off, none⟩) n c) (hr : RowU w g xs) (hn : 0 < n) (hfit : off + n ≤ xs.length)
    (h : ∀ w', RowU w' g (splice xs off (List.replicate n 0)) → Upd g w w' → wpList Tryd.prog ops Q rest (a.put o.dst (.tuple #[])) w') : wpList Tryd.prog ops Q (o :: rest) a w := by
  refine wpList_plain hgd fun K hK => ?_
  have hrun := run_clear_row w o.type g off n c xs hr hn hfit
  unfold Oper.wp
  simp [execOp, ho, resolve, invoke, builtin, hs, hrun, Result.andThen]
  exact hK _ _ (h _ (setRow_heap w g _ _ _ _ hr) (Upd.setRow w g _))
/-- 'copy(d, s)'. -/
theorem wpCopyU {ops : Array Oper} {rest : List Oper} {o : Oper} {a : Act} {Q : Exit → Act → World → Prop} (hgd : o.guard = none) (d s : Operand)
    (ho : o.op = .call { callee := .builtin .copy, args := #[d, s], argTypes := #[47, 47] }) {w : World} {g off dLen dCap sCap : Nat} {sp : Option Addr} {xs ls : List Int}
    (hd : a.eval d = .slice (some ⟨g, off, none⟩) dLen dCap) (hs : a.eval s = .slice sp ls.length sCap) (hr : RowU w g xs) (hl : HasU w sp sCap ls) (hsp : SpotFree sp) (hn : ls.length ≤ dLen) (hfit : off + dLen ≤ xs.length)
    (h : ∀ w', RowU w' g (splice xs off ls) → Upd g w w' → wpList Tryd.prog ops Q rest (a.put o.dst (goInt ls.length)) w') : wpList Tryd.prog ops Q (o :: rest) a w := by
  have hsz : (Tryd.prog.info? 77).map (·.size) = some 1 := by
    obtain ⟨i, hi, _, h1, _⟩ := tU.info
    rw [hi]; simp [h1]
  by_cases h0 : ls.length = 0
  · obtain rfl : ls = [] := List.eq_nil_of_length_eq_zero h0
    refine wpList_copy_nothing hgd d s _ _ ho 77 tU.under hsz _ sp dLen dCap 0 sCap hd hs (by simp) ?_
    exact h w (by simpa [splice] using hr) ⟨rfl, rfl, rfl, rfl, fun _ _ => rfl⟩
  · rcases hsp with rfl | ⟨g2, o2, rfl⟩
    · have := hl.2.2.1 rfl
      have := hl.1
      omega
    · have := wpList_copy_own hgd d s _ _ ho 77 tU.under hsz g off dLen dCap ⟨g2, o2, none⟩ ls.length sCap hd hs _ 77 hr (ls.map (Value.int .u32)) (by rw [List.length_map]; exact (Nat.min_eq_left hn).symm)
        (fun j u hj => by
          obtain ⟨hj1, rfl⟩ := map_at hj
          rw [Addr.add_lit]
          exact hl.at.2 j hj1) (by simp; omega) (fun v hv => by simp at hv; obtain ⟨z, _, rfl⟩ := hv; rfl) (Q := Q) (rest := rest) (ops := ops)
      refine this ?_
      have e : ((xs.map (Value.int .u32)).toArray.toList.take off ++ (ls.map (Value.int .u32) ++ (xs.map (Value.int .u32)).toArray.toList.drop (off + (ls.map (Value.int .u32)).length))) = (splice xs off ls).map (Value.int .u32) := by
        rw [← map_splice]
        simp [splice]
      rw [e, List.length_map]
      exact h _ (setRow_heap w g _ _ _ _ hr) (Upd.setRow w g _)
theorem lz_of {x : Int} {s : Nat} (w : World) (h0 : 0 ≤ x) (h1 : x ≤ 4294967295) (h : 32 - (Lib.bitLen x.toNat : Int) = s) : Calls Tryd.prog 65 #[.int .u32 x] w fun e w' => e = .returned (.int .i64 s) ∧ w' = w :=
  (Go.Proofs.Tryd.bits_LeadingZeros32 x w h0 h1).mono fun e w' he => ⟨by rw [he.1, h], he.2⟩
end Go.Proofs.YthkmhpkoanmbkaaDoor

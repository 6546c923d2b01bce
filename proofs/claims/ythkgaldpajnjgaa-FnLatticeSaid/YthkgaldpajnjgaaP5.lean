/-
  Contracts of slices.Grow at nil and of slices.Concat of two lists, the first one of one element. Conditions stand in each contract.
-/
import Derived.Test.YthkgaldpajnjgaaP2
import Derived.Shelf.Spec.SlicesGrow
import Derived.Ground.Names8Prog
namespace Go.Proofs.Ythkgaldpajnjgaa
open Go.RowKit
set_option linter.unusedVariables false

def growRen : Go.Shelf.Ren := ⟨fun | 4 => 28 | n => n, fun | 22 => 29 | 25 => 2 | n => n, fun | n => n⟩
theorem growLays : Go.Proofs.Lays8.n4 Try.prog growRen := {
  mixed := by kernel_rfl
  f4 := ⟨Try.f28.name, by decide, Try.func28.trans (congrArg some (by kernel_rfl))⟩
  t0 := Try.underlying0
  a0 := Try.isAgg0
  z0 := Try.sizeOf0
  v0 := Try.zeroValue0
  t3 := Try.underlying3
  a3 := Try.isAgg3
  z3 := Try.sizeOf3
  v3 := Try.zeroValue3
  t4 := Try.underlying4
  a4 := Try.isAgg4
  z4 := Try.sizeOf4
  v4 := Try.zeroValue4
  t9 := Try.underlying9
  a9 := Try.isAgg9
  z9 := Try.sizeOf9
  v9 := Try.zeroValue9
  t20 := Try.underlying20
  a20 := Try.isAgg20
  z20 := Try.sizeOf20
  v20 := Try.zeroValue20
  t22 := Try.underlying29
  a22 := Try.isAgg29
  z22 := Try.sizeOf29
  v22 := Try.zeroValue29 }
theorem GrowNil_any (n : Nat) (w : World) (h0 : 0 < n) (h1 : n ≤ 1000000) :
    Calls Try.prog 28 #[.slice none 0 0, .int .i64 n] w fun e w' => ∃ v', e = .returned v' ∧ OwnI .i64 w.heap.size 2 w w' v' [] := by
  obtain ⟨i0, hi, hz0, hz1, hz2⟩ := tI.info
  have h := Any8.slices_Grow_grow growLays i0 (.int .i64 0) hi hz0 (by rw [hz1]; decide) none 0 0 n [] w (Nat.le_refl _) (by omega) (by rw [hz2]; omega) (by omega) (by simp) (fun _ => rfl) (fun a ha => by cases ha)
  refine h.mono ?_
  rintro e w' ⟨rfl, rfl⟩
  have hg1 := grownCap_ge w (0 + n) 0 2
  have hg2 := grownCap_le_maxLen w (0 + n) 0 2 (by unfold maxLen; omega)
  refine ⟨_, rfl, ⟨?_, (Below.refl _ w).drew.alloc (Nat.le_refl _) _, by simp, _, _, rfl⟩⟩
  rw [Nat.zero_add] at hg1
  have h2 := World.ownsRow_made (base := w.heap.size) (e := 2) (size := 1) w.drew ((#[] : Array Value) ++ Builtin.zeroCells (Value.int .i64 0).cells (0 + n - 0) ++ Builtin.zeroCells (Value.int .i64 0).cells (grownCap w (0 + n) 0 2 - (0 + n))) (grownCap w (0 + n) 0 2) (Nat.le_refl _) hg2 (by simp [size_zeroCells, Value.cells]; omega)
  exact h2
/-- What stands behind k rounds of Concat's first loop. -/
def CatSum (n k : Nat) (s : Int) : Prop := (k = 0 ∧ s = 0) ∨ (k = 1 ∧ s = 1) ∨ (k = 2 ∧ s = ((n + 1 : Nat) : Int))
def CatAt (w : World) (x : Int) (rest : List Int) (k : Nat) (v : Value) (wr : World) : Prop := (k = 0 ∧ OwnI .i64 w.heap.size 2 w wr v []) ∨ (k = 1 ∧ OwnI .i64 w.heap.size 2 w wr v [x]) ∨ (k = 2 ∧ OwnI .i64 w.heap.size 2 w wr v (x :: rest))
set_option maxRecDepth 100000 in
theorem Concat_any (x : Int) (rest : List Int) (n b g1 : Nat) (ar : Option Addr) (cr base : Nat) (w : World) (hn : rest.length = n) (h0 : 0 < n) (h8 : n ≤ 100)
    (hc0 : w.cell? ⟨b, 0, none⟩ = some (.slice (some ⟨g1, 0, none⟩) 1 1)) (hc1 : w.cell? ⟨b, 1, none⟩ = some (.slice ar n cr)) (hx : w.cell? ⟨g1, 0, none⟩ = some (.int .i64 x)) (hr : HasL base w ar cr rest) :
    Calls Try.prog 26 #[.slice (some ⟨b, 0, none⟩) 2 2] w fun e w' => ∃ v, e = .returned v ∧ OwnI .i64 w.heap.size 2 w w' v (x :: rest) := by
  have hbl := World.block_lt_of_cell? w _ hc0
  have hgl := World.block_lt_of_cell? w _ hx
  obtain ⟨g2, rfl, _, hg2, hcl, _⟩ := hr.cells (by omega)
  have HC := Lib.hid (And.intro hc0 (And.intro hc1 (And.intro hx hcl)))
  have HN := Lib.hid hn
  have hgr : ∀ w, Calls Try.prog 28 #[.slice none 0 0, .int .i64 ((n : Int) + 1)] w fun e w' => ∃ v', e = .returned v' ∧ OwnI .i64 w.heap.size 2 w w' v' [] := fun w => by
    have h := GrowNil_any (n + 1) w (by omega) (by omega)
    rwa [show (((n + 1 : Nat)) : Int) = (n : Int) + 1 by omega] at h
  clear hc0 hc1 hx hcl hr hn
  go_enter Try.func26, Try.ntmps26
  go_wp2
  go_loop [3, 5, 11] (fun s _ i => ∃ (k : Nat) (sv : Int), i = .int .i64 k ∧ s = .int .i64 sv ∧ CatSum n k sv) (fun _ _ i => 2 - (intOf i).toNat)
  case atStart => exact ⟨0, 0, rfl, rfl, .inl ⟨rfl, rfl⟩⟩
  case round =>
    obtain ⟨k, sv, rfl, rfl, hk⟩ := hrel
    obtain ⟨c0, c1, c2, _⟩ := HC.out
    rcases hk with ⟨rfl, rfl⟩ | ⟨rfl, rfl⟩ | ⟨rfl, rfl⟩
    · go_wp2
      go_round
      case rel => exact ⟨1, 1, by go_num, by go_num, .inr (.inl ⟨rfl, rfl⟩)⟩
      case measure => simp [intOf]
    · go_wp2
      go_round
      case rel => exact ⟨2, ((n + 1 : Nat) : Int), by go_num, by go_num, .inr (.inr ⟨rfl, rfl⟩)⟩
      case measure => simp [intOf]
    · go_wp2_with fail
      refine (hgr _).mono ?_
      rintro e w1 ⟨v0, rfl, hown⟩
      have HO := Lib.hid hown
      clear hown hgr
      go_wp2
      go_loopw [6, 8, 27] (fun v _ i wr => ∃ k : Nat, i = .int .i64 k ∧ Hid (CatAt w x rest k v wr)) (fun _ _ i _ => 2 - (intOf i).toNat)
      case atStart => exact ⟨0, rfl, Lib.hid (.inl ⟨rfl, HO.out⟩)⟩
      case round =>
        obtain ⟨k, rfl, hk⟩ := hrel
        rcases hk.out with ⟨rfl, hv⟩ | ⟨rfl, hv⟩ | ⟨rfl, hv⟩
        · have c0' := (hv.below.cell (p := ⟨b, 0, none⟩) hbl).trans HC.out.1
          have hx2 := (hv.below.cell (p := ⟨g1, 0, none⟩) hgl).trans HC.out.2.2.1
          have hnw : ∀ j, j < [x].length → wr.cell? ⟨g1, 0 + j, none⟩ = some (.int .i64 ([x].getD j 0)) := fun j hj => by
            have e : j = 0 := by simpa using hj
            subst e; exact hx2
          clear c0 c1 c2 hx2
          go_wp2_with (at_builtin; refine wpAppAll tI rfl _ _ rfl (ys := [x]) (off := 0) (c := 1) rfl hv rfl hnw (by decide) (by simp) ?_; intro v' w2 hown2)
          have HO2 := Lib.hid hown2
          clear hown2
          go_roundw
          case rel => exact ⟨1, by go_num, Lib.hid (.inr (.inl ⟨rfl, HO2.out⟩))⟩
          case measure => simp [intOf]
        · have c1' := (hv.below.cell (p := ⟨b, 1, none⟩) hbl).trans HC.out.2.1
          have hnw : ∀ j, j < rest.length → wr.cell? ⟨g2, 0 + j, none⟩ = some (.int .i64 (rest.getD j 0)) := fun j hj => by
            rw [Nat.zero_add]; exact (hv.below.cell (p := ⟨g2, j, none⟩) hg2).trans (HC.out.2.2.2 j hj)
          clear c0 c1 c2
          go_wp2_with (at_builtin; refine wpAppAll tI rfl _ _ rfl (ys := rest) (off := 0) (c := cr) rfl hv (by rw [HN.out]; rfl) hnw (by decide) (by rw [HN.out]; simp; omega) ?_; intro v' w2 hown2)
          have HO2 := Lib.hid hown2
          clear hown2
          go_roundw
          case rel => exact ⟨2, by go_num, Lib.hid (.inr (.inr ⟨rfl, HO2.out⟩))⟩
          case measure => simp [intOf]
        · clear c0 c1 c2
          have HV := Lib.hid hv
          clear hv
          go_wp2
          go_ret
          exact ⟨_, rfl, HV.out⟩
end Go.Proofs.Ythkgaldpajnjgaa

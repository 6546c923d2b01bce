/-
  Lists of int64 that calls hand back, and the laws' own comparison and marking of them. Conditions stand in each contract.
-/
import Derived.Test.YtgcfibljepdkkaaDoorC1
import Derived.Test.YtgcfibljepdkkaaDoorOwn
namespace Go.Proofs.YtgcfibljepdkkaaDoor
open Go.RowKit
set_option linter.unusedVariables false

theorem tI : SliceT Tryd.prog 22 2 .i64 8 := ⟨Tryd.underlying22, Tryd.underlying2, info_parts (by kernel_rfl)⟩

/-- In world w the slice at a is empty, or it is a row of its own, from block 'base' on, with the elements xs. -/
def HasL (base : Nat) (w : World) (a : Option Addr) (c : Nat) (xs : List Int) : Prop :=
  xs = [] ∨ ∃ g, a = some ⟨g, 0, none⟩ ∧ base ≤ g ∧ w.ownsRow g 2 1 (.slice a xs.length c) xs.length (xs.map (Value.int .i64))
/-- A call hands back such a list and a bool, and has turned nothing that was there. -/
def RetL (xs : List Int) (b : Bool) (w : World) (e : Ending) (w' : World) : Prop :=
  ∃ a c, e = .returned (.tuple #[.slice a xs.length c, .bool b]) ∧ HasL w.heap.size w' a c xs ∧ Below w.heap.size w w'
/-- The same without a bool. -/
def RetL1 (xs : List Int) (w : World) (e : Ending) (w' : World) : Prop :=
  ∃ a c, e = .returned (.slice a xs.length c) ∧ HasL w.heap.size w' a c xs ∧ Below w.heap.size w w'

theorem HasL.later {base : Nat} {w w' : World} {a : Option Addr} {c : Nat} {xs : List Int} (h : HasL base w a c xs) (hb : Below w.heap.size w w') : HasL base w' a c xs := by
  rcases h with h | ⟨g, h1, h2, h3⟩
  · exact .inl h
  · exact .inr ⟨g, h1, h2, h3.kept (row := none) ⟨hb.os, hb.tape, hb.output, hb.size, fun i hi _ => hb.block i hi⟩ (by cases hv : (Value.slice a xs.length c).ownBlock <;> simp)⟩
theorem HasL.mono {base base' : Nat} {w : World} {a : Option Addr} {c : Nat} {xs : List Int} (h : HasL base w a c xs) (hb : base' ≤ base) : HasL base' w a c xs := by
  rcases h with h | ⟨g, h1, h2, h3⟩
  · exact .inl h
  · exact .inr ⟨g, h1, by omega, h3⟩
theorem HasL.nil (base : Nat) (w : World) (a : Option Addr) (c : Nat) : HasL base w a c [] := .inl rfl
theorem OwnI.hasL {base : Nat} {W w : World} {v : Value} {xs : List Int} (h : OwnI .i64 base 2 W w v xs) : ∃ a c, v = .slice a xs.length c ∧ HasL base w a c xs := by
  obtain ⟨g, cap, rfl⟩ := h.2.2.2
  have hlt := h.1.lt g rfl
  refine ⟨_, _, rfl, .inr ⟨g, rfl, hlt.1, h.1.1, ?_⟩⟩
  rcases h.1.2 with ⟨h', _⟩ | ⟨g', cap', cur, h', r⟩
  · simp at h'
  · simp only [Value.slice.injEq, Option.some.injEq, Addr.mk.injEq, and_true, true_and] at h'
    obtain ⟨rfl, rfl⟩ := h'
    exact .inr ⟨g, cap, cur, rfl, Nat.le_refl _, r.2⟩
/-- What is there where the list isn't empty. -/
theorem HasL.open {base : Nat} {w : World} {a : Option Addr} {c : Nat} {xs : List Int} (h : HasL base w a c xs) (hx : 0 < xs.length) :
    ∃ g, a = some ⟨g, 0, none⟩ ∧ base ≤ g ∧ g < w.heap.size ∧ OwnI .i64 g 2 w w (.slice (some ⟨g, 0, none⟩) xs.length c) xs := by
  rcases h with h | ⟨g, rfl, h2, h3⟩
  · subst h; simp at hx
  · have hlt := h3.lt g rfl
    exact ⟨g, rfl, h2, hlt.2, h3, Below.refl _ _, by omega, g, c, rfl⟩
theorem HasL.cells {base : Nat} {w : World} {a : Option Addr} {c : Nat} {xs : List Int} (h : HasL base w a c xs) (hx : 0 < xs.length) :
    ∃ g, a = some ⟨g, 0, none⟩ ∧ base ≤ g ∧ g < w.heap.size ∧ (∀ j, j < xs.length → w.cell? ⟨g, j, none⟩ = some (.int .i64 (xs.getD j 0))) ∧ ∀ j, w.frozen? ⟨g, j, none⟩ = false := by
  obtain ⟨g, rfl, h2, h3, h4⟩ := h.open hx
  obtain ⟨g', cap, hv, _, _, _, _, h5, h6⟩ := h4.cell
  simp only [Value.slice.injEq, Option.some.injEq, Addr.mk.injEq, and_true, true_and] at hv
  obtain ⟨rfl, rfl⟩ := hv
  exact ⟨g, rfl, h2, h3, h5, h6⟩

theorem eqInt64S_same (xs : List Int) (a1 a2 : Option Addr) (c1 c2 b1 b2 : Nat) (w : World) (h1 : HasL b1 w a1 c1 xs) (h2 : HasL b2 w a2 c2 xs) (hx : xs.length < 1000000000000) :
    Calls Tryd.prog 8 #[.slice a1 xs.length c1, .slice a2 xs.length c2] w fun e w' => e = .returned (.bool true) ∧ ∃ n, w' = w.drewN n := by
  rcases Nat.eq_zero_or_pos xs.length with h0 | h0
  · have hx0 : xs = [] := List.eq_nil_of_length_eq_zero h0
    subst hx0
    go_enter Tryd.func8, Tryd.ntmps8
    go_wp2
    go_loopw [5] (fun i wr => i = .int .i64 0 ∧ wr = w) (fun _ _ => 0)
    case atStart => exact ⟨rfl, rfl⟩
    case round =>
      obtain ⟨rfl, rfl⟩ := hrel
      go_wp2
      go_ret
      exact ⟨rfl, 0, rfl⟩
  · obtain ⟨g1, rfl, _, _, k1, _⟩ := h1.cells h0
    obtain ⟨g2, rfl, _, _, k2, _⟩ := h2.cells h0
    have K1 := Lib.hid k1
    have K2 := Lib.hid k2
    clear k1 k2 h1 h2
    go_enter Tryd.func8, Tryd.ntmps8
    go_wp2
    go_loopw [5] (fun i wr => ∃ k : Nat, k ≤ xs.length ∧ i = .int .i64 k ∧ ∃ n, wr = w.drewN n) (fun i _ => xs.length - (intOf i).toNat)
    case atStart => exact ⟨0, Nat.zero_le _, rfl, 0, rfl⟩
    case round =>
      obtain ⟨k, hk, rfl, n, rfl⟩ := hrel
      by_cases hlt : k < xs.length
      · have q1 := K1.out k hlt
        have q2 := K2.out k hlt
        have r0 : (0 : Int) ≤ (k : Int) := by omega
        have r1 : (k : Int) < (xs.length : Int) := by omega
        obtain ⟨x, hx'⟩ : ∃ x, xs.getD k 0 = x := ⟨_, rfl⟩
        rw [hx'] at q1 q2
        clear hx'
        go_wp2
        go_quiet (fail)
        go_wp2
        go_roundw
        case rel => exact ⟨k + 1, by omega, by go_num, _, rfl⟩
        case measure => simp [intOf]; omega
      · have hke : k = xs.length := by omega
        go_wp2
        go_ret
        exact ⟨rfl, n, rfl⟩
/-- The elements count up from k. -/
def Marked (k : Int) (ys : List Int) : Prop := ∀ j, j < ys.length → ys.getD j 0 = k + j
theorem markInt64S_any (xs : List Int) (a : Option Addr) (c base : Nat) (k : Int) (w : World) (h : HasL base w a c xs) (hx : xs.length < 1000000000000) (k0 : 0 ≤ k) (k1 : k ≤ 1000000000000) (hB : base ≤ w.heap.size) :
    Calls Tryd.prog 9 #[.slice a xs.length c, .int .i64 k] w fun e w' => e = .returned (.int .i64 (k + xs.length)) ∧ ∃ ys, ys.length = xs.length ∧ Marked k ys ∧ HasL base w' a c ys ∧ Below base w w' := by
  rcases Nat.eq_zero_or_pos xs.length with h0 | h0
  · have hx0 : xs = [] := List.eq_nil_of_length_eq_zero h0
    subst hx0
    go_enter Tryd.func9, Tryd.ntmps9
    go_wp2
    go_loopw [1, 5] (fun s i wr => i = .int .i64 0 ∧ s = .int .i64 k ∧ wr = w) (fun _ _ _ => 0)
    case atStart => exact ⟨rfl, rfl, rfl⟩
    case round =>
      obtain ⟨rfl, rfl, rfl⟩ := hrel
      go_wp2
      go_ret
      exact ⟨ret_i64 (by simp), [], rfl, fun j hj => by simp at hj, .inl rfl, Below.refl _ _⟩
  · obtain ⟨g, rfl, hg1, hg2, hown⟩ := h.open h0
    have HO := Lib.hid hown
    clear hown h
    go_enter Tryd.func9, Tryd.ntmps9
    go_wp2
    go_loopw [1, 5] (fun s i wr => ∃ (n : Nat) (ys : List Int), n ≤ xs.length ∧ i = .int .i64 n ∧ s = .int .i64 (k + n) ∧ Hid (ys.length = xs.length) ∧ Hid (∀ j, j < n → ys.getD j 0 = k + j) ∧ Hid (OwnI .i64 g 2 w wr (.slice (some ⟨g, 0, none⟩) xs.length c) ys)) (fun _ i _ => xs.length - (intOf i).toNat)
    case atStart => exact ⟨0, xs, Nat.zero_le _, rfl, by simp, Lib.hid rfl, Lib.hid (fun j hj => by omega), HO⟩
    case round =>
      obtain ⟨n, ys, hn, rfl, rfl, hl, hm, ho⟩ := hrel
      by_cases hlt : n < xs.length
      · have hc := ho.out.cell
        obtain ⟨g', cap, hv, _, _, _, _, h5, h6⟩ := hc
        simp only [Value.slice.injEq, Option.some.injEq, Addr.mk.injEq, and_true] at hv
        obtain ⟨rfl, _, rfl⟩ := hv
        have q1 := h5 n (by rw [hl.out]; exact hlt)
        have q2 := h6 n
        obtain ⟨x, hx'⟩ : ∃ x, ys.getD n 0 = x := ⟨_, rfl⟩
        rw [hx'] at q1
        clear hx' h5 h6
        have r0 : (0 : Int) ≤ (n : Int) := by omega
        have r1 : (n : Int) < (xs.length : Int) := by omega
        have hst : Hid (OwnI .i64 g 2 w (wr.setCell ⟨g, n, none⟩ (.int .i64 (k + n))) (.slice (some ⟨g, 0, none⟩) xs.length c) (ys.set n (k + n))) := by
          have h7 := ho.out
          rw [← hl.out] at h7 ⊢
          exact Lib.hid (h7.stored n (k + n))
        have hm2 : Hid (∀ j, j < n + 1 → (ys.set n (k + n)).getD j 0 = k + j) := Lib.hid fun j hj => by
          have hl' := hl.out
          by_cases e : j = n
          · subst e; simp [List.getD, show j < ys.length by omega]
          · have := hm.out j (by omega)
            simp only [List.getD, List.getElem?_set_ne (Ne.symm e)] at this ⊢
            exact this
        have hl2 : Hid ((ys.set n (k + n)).length = xs.length) := Lib.hid (by rw [List.length_set, hl.out])
        go_wp2
        go_roundw
        case rel => exact ⟨n + 1, ys.set n (k + n), by omega, by go_num, by go_num, hl2, hm2, hst⟩
        case measure => simp [intOf]; omega
      · have hke : n = xs.length := by omega
        subst hke
        have hL := ho.out.hasL
        go_wp2
        go_ret
        refine ⟨rfl, ys, hl.out, fun j hj => hm.out j (by rw [← hl.out]; exact hj), ?_, ho.out.below.mono hg1⟩
        obtain ⟨a', c', hv, hh⟩ := hL
        simp only [Value.slice.injEq] at hv
        obtain ⟨rfl, _, rfl⟩ := hv
        exact hh.mono hg1
theorem heldInt64S_any (ys : List Int) (a : Option Addr) (c base : Nat) (k : Int) (w : World) (h : HasL base w a c ys) (hm : Marked k ys) (hx : ys.length < 1000000000000) (k0 : 0 ≤ k) (k1 : k ≤ 1000000000000) :
    Calls Tryd.prog 10 #[.slice a ys.length c, .int .i64 k] w fun e w' => e = .returned (.int .i64 (k + ys.length)) ∧ w = w' := by
  rcases Nat.eq_zero_or_pos ys.length with h0 | h0
  · have hx0 : ys = [] := List.eq_nil_of_length_eq_zero h0
    subst hx0
    clear hm
    go_enter Tryd.func10, Tryd.ntmps10
    go_wp2
    go_loop [1, 5] (fun s i => i = .int .i64 0 ∧ s = .int .i64 k) (fun _ _ => 0)
    case atStart => exact ⟨rfl, rfl⟩
    case round =>
      obtain ⟨rfl, rfl⟩ := hrel
      go_wp2
      go_ret
      exact ⟨ret_i64 (by simp), rfl⟩
  · obtain ⟨g, rfl, _, _, k2, _⟩ := h.cells h0
    have K2 := Lib.hid k2
    have HM := Lib.hid hm
    clear k2 hm h
    go_enter Tryd.func10, Tryd.ntmps10
    go_wp2
    go_loop [1, 5] (fun s i => ∃ n : Nat, n ≤ ys.length ∧ i = .int .i64 n ∧ s = .int .i64 (k + n)) (fun _ i => ys.length - (intOf i).toNat)
    case atStart => exact ⟨0, Nat.zero_le _, rfl, by simp⟩
    case round =>
      obtain ⟨n, hn, rfl, rfl⟩ := hrel
      by_cases hlt : n < ys.length
      · have q := K2.out n hlt
        rw [HM.out n hlt] at q
        have r0 : (0 : Int) ≤ (n : Int) := by omega
        have r1 : (n : Int) < (ys.length : Int) := by omega
        go_wp2
        go_round
        case rel => exact ⟨n + 1, by omega, by go_num, by go_num⟩
        case measure => simp [intOf]; omega
      · have hke : n = ys.length := by omega
        subst hke
        go_wp2
        go_ret
        exact ⟨rfl, rfl⟩
end Go.Proofs.YtgcfibljepdkkaaDoor

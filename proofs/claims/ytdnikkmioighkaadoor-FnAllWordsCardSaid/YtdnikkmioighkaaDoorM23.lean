/-
  The least solution of linear equations modulo 2, found bit by bit from the greatest unknown on. Plain numbers, no program.
-/
import Derived.Test.YtdnikkmioighkaaDoorM19
namespace Go.Proofs.YtdnikkmioighkaaDoor
set_option linter.unusedVariables false

theorem lt_of_bits {x y : Nat} (c : Nat) (hx : x.testBit c = false) (hy : y.testBit c = true) (h : ∀ j, c < j → x.testBit j = y.testBit j) : x < y := by
  apply Nat.lt_of_not_le
  intro hle
  rcases Nat.lt_or_eq_of_le hle with q | q
  · obtain ⟨j, h1, h2, h3⟩ := top_differ x y x (Nat.le_refl _) q
    rcases Nat.lt_trichotomy j c with d | d | d
    · have := h3 c d; rw [hx, hy] at this; cases this
    · subst d; rw [hx] at h1; cases h1
    · have := h j d; rw [h1, h2] at this; cases this
  · subst q; rw [hx] at hy; cases hy
theorem dt_comm : ∀ n e x, dt n e x = dt n x e
  | 0, e, x => rfl
  | n + 1, e, x => by rw [dt, dt, dt_comm n e x, Bool.and_comm]
theorem sat_pow {W c x : Nat} (hc : c < W) : Sat W (2 ^ c) x ↔ x.testBit c = false := by
  unfold Sat
  rw [dt_comm, dt_pow, Nat.testBit_two_pow]
  simp [hc, show ¬ c = W by omega]
theorem sat_pow2 {W c x : Nat} (hc : c < W) : Sat W (2 ^ c ||| 2 ^ W) x ↔ x.testBit c = true := by
  unfold Sat
  have e : dt W x (2 ^ c ||| 2 ^ W) = dt W x (2 ^ c) := dt_same W fun i hi _ => by
    rw [Nat.testBit_or, Nat.testBit_two_pow, Nat.testBit_two_pow]
    simp [show ¬ W = i by omega]
  rw [dt_comm, e, dt_pow, Nat.testBit_or, Nat.testBit_two_pow, Nat.testBit_two_pow]
  simp [hc]
theorem alls_snoc {W x e : Nat} {es : List Nat} : AllS W (es ++ [e]) x ↔ AllS W es x ∧ Sat W e x := by
  constructor
  · intro h
    exact ⟨fun f hf => h f (List.mem_append_left _ hf), h e (by simp)⟩
  · rintro ⟨h1, h2⟩ f hf
    rcases List.mem_append.1 hf with h | h
    · exact h1 f h
    · rw [List.mem_singleton] at h; subst h; exact h2
theorem alls_mod {W x : Nat} {es : List Nat} (h : AllS W es x) : AllS W es (x % 2 ^ W) := fun e he => by
  have h1 := h e he
  unfold Sat at *
  rw [← h1]
  refine dt_same W fun i hi _ => ?_
  rw [Nat.testBit_mod_two_pow]
  simp [hi]
/-- The least solution. -/
structure LeastS (W : Nat) (es : List Nat) (L : Nat) : Prop where
  sol : AllS W es L
  le : ∀ y, AllS W es y → L ≤ y
theorem LeastS.lt {W L : Nat} {es : List Nat} (h : LeastS W es L) : L < 2 ^ W :=
  Nat.lt_of_le_of_lt (h.le _ (alls_mod h.sol)) (Nat.mod_lt _ (Nat.pow_pos (by decide)))
theorem LeastS.unique {W L L' : Nat} {es : List Nat} (h : LeastS W es L) (h' : LeastS W es L') : L = L' :=
  Nat.le_antisymm (h.le _ h'.sol) (h'.le _ h.sol)
theorem LeastS.congr {W L : Nat} {es fs : List Nat} (h : LeastS W es L) (e : ∀ x, AllS W es x ↔ AllS W fs x) : LeastS W fs L :=
  ⟨(e L).1 h.sol, fun y hy => h.le y ((e y).2 hy)⟩
theorem ech_least {W : Nat} {rows : List Nat} {ld : Nat → Nat} (h : Ech W rows ld) : LeastS W rows (lst rows ld W rows.length) := ⟨lst_sol h, fun _ hy => lst_least h hy⟩
/-- The search for it, behind the unknowns from c on. -/
structure LSt (W : Nat) (eqs : List Nat) (L c out : Nat) (es : List Nat) : Prop where
  sol : ∀ x, AllS W es x ↔ AllS W eqs x ∧ ∀ j, c ≤ j → j < W → x.testBit j = L.testBit j
  bits : ∀ j, out.testBit j = (decide (c ≤ j) && L.testBit j)
theorem LSt.start {W L : Nat} {eqs : List Nat} (h : LeastS W eqs L) : LSt W eqs L W 0 eqs :=
  ⟨fun x => ⟨fun hx => ⟨hx, fun j h1 h2 => by omega⟩, fun hx => hx.1⟩, fun j => by
    rw [Nat.zero_testBit]
    by_cases c : W ≤ j
    · rw [Nat.testBit_lt_two_pow (Nat.lt_of_lt_of_le h.lt (Nat.pow_le_pow_right (by decide) c))]; simp
    · simp [c]⟩
theorem LSt.yes {W L c out : Nat} {eqs es : List Nat} (hL : LeastS W eqs L) (h : LSt W eqs L (c + 1) out es) (hc : c < W) (hs : Solv W (es ++ [2 ^ c])) : LSt W eqs L c out (es ++ [2 ^ c]) := by
  obtain ⟨x, hx⟩ := hs
  obtain ⟨h1, h2⟩ := alls_snoc.1 hx
  rw [sat_pow hc] at h2
  obtain ⟨h3, h4⟩ := (h.sol x).1 h1
  have hbit : L.testBit c = false := by
    cases hb : L.testBit c with
    | false => rfl
    | true =>
      have hy := hL.le _ (alls_mod h3)
      have hlt : x % 2 ^ W < L := lt_of_bits c (by rw [Nat.testBit_mod_two_pow, h2]; simp) hb fun j hj => by
        rw [Nat.testBit_mod_two_pow]
        by_cases q : j < W
        · simp [q, h4 j (by omega) q]
        · rw [Nat.testBit_lt_two_pow (Nat.lt_of_lt_of_le hL.lt (Nat.pow_le_pow_right (by decide) (by omega)))]; simp [q]
      omega
  refine ⟨fun y => ?_, fun j => ?_⟩
  · rw [alls_snoc, h.sol, sat_pow hc]
    constructor
    · rintro ⟨⟨a, b⟩, d⟩
      refine ⟨a, fun j h1 h2 => ?_⟩
      by_cases e : j = c
      · subst e; rw [d, hbit]
      · exact b j (by omega) h2
    · rintro ⟨a, b⟩
      exact ⟨⟨a, fun j h1 h2 => b j (by omega) h2⟩, by rw [b c (Nat.le_refl _) hc, hbit]⟩
  · rw [h.bits]
    by_cases e : j = c
    · subst e; rw [hbit]; simp
    · by_cases q : c ≤ j
      · simp [q, show c + 1 ≤ j by omega]
      · simp [q, show ¬ c + 1 ≤ j by omega]
theorem LSt.no {W L c out : Nat} {eqs es : List Nat} (hL : LeastS W eqs L) (h : LSt W eqs L (c + 1) out es) (hc : c < W) (hs : ¬ Solv W (es ++ [2 ^ c])) : LSt W eqs L c (out ||| 2 ^ c) (es ++ [2 ^ c ||| 2 ^ W]) := by
  have hbit : L.testBit c = true := by
    cases hb : L.testBit c with
    | true => rfl
    | false =>
      exact absurd ⟨L, alls_snoc.2 ⟨(h.sol L).2 ⟨hL.sol, fun _ _ _ => rfl⟩, (sat_pow hc).2 hb⟩⟩ hs
  refine ⟨fun y => ?_, fun j => ?_⟩
  · rw [alls_snoc, h.sol, sat_pow2 hc]
    constructor
    · rintro ⟨⟨a, b⟩, d⟩
      refine ⟨a, fun j h1 h2 => ?_⟩
      by_cases e : j = c
      · subst e; rw [d, hbit]
      · exact b j (by omega) h2
    · rintro ⟨a, b⟩
      exact ⟨⟨a, fun j h1 h2 => b j (by omega) h2⟩, by rw [b c (Nat.le_refl _) hc, hbit]⟩
  · rw [Nat.testBit_or, h.bits, Nat.testBit_two_pow]
    by_cases e : c = j
    · subst e; rw [hbit]; simp
    · by_cases q : c ≤ j
      · simp [q, e, show c + 1 ≤ j by omega]
      · simp [q, e, show ¬ c + 1 ≤ j by omega]
theorem LSt.done {W L out : Nat} {eqs es : List Nat} (h : LSt W eqs L 0 out es) : out = L := by
  apply Nat.eq_of_testBit_eq
  intro j
  rw [h.bits]; simp
theorem LSt.solv {W L c out : Nat} {eqs es : List Nat} (hL : LeastS W eqs L) (h : LSt W eqs L c out es) : Solv W es := ⟨L, (h.sol L).2 ⟨hL.sol, fun _ _ _ => rfl⟩⟩
end Go.Proofs.YtdnikkmioighkaaDoor

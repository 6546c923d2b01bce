/-
  Linear equations modulo 2: elimination keeps the solutions; echelon form; the least solution. Plain numbers, no program.
-/
import Derived.Test.YtdnikkmioighkaaDoorKit
namespace Go.Proofs.YtdnikkmioighkaaDoor
set_option linter.unusedVariables false

/-- The highest bit in which they differ. -/
theorem top_differ : ∀ (n y x : Nat), x ≤ n → y < x → ∃ j, x.testBit j = true ∧ y.testBit j = false ∧ ∀ k, j < k → x.testBit k = y.testBit k
  | 0, y, x, hn, h => by omega
  | n + 1, y, x, hn, h => by
    by_cases c : y / 2 = x / 2
    · refine ⟨0, ?_, ?_, fun k hk => ?_⟩
      · rw [Nat.testBit_zero]; simp; omega
      · rw [Nat.testBit_zero]; simp; omega
      · obtain ⟨k, rfl⟩ : ∃ m, k = m + 1 := ⟨k - 1, by omega⟩
        rw [Nat.testBit_succ, Nat.testBit_succ, c]
    · obtain ⟨j, h1, h2, h3⟩ := top_differ n (y / 2) (x / 2) (by omega) (by omega)
      refine ⟨j + 1, by rw [Nat.testBit_succ]; exact h1, by rw [Nat.testBit_succ]; exact h2, fun k hk => ?_⟩
      obtain ⟨k, rfl⟩ : ∃ m, k = m + 1 := ⟨k - 1, by omega⟩
      rw [Nat.testBit_succ, Nat.testBit_succ]
      exact h3 k (by omega)
/-- The sum of the unknowns of e that x tells, modulo 2. -/
def dt : Nat → Nat → Nat → Bool
  | 0, _, _ => false
  | n + 1, e, x => dt n e x ^^ (e.testBit n && x.testBit n)
theorem dt_xor (x : Nat) : ∀ n e f, dt n (e ^^^ f) x = (dt n e x ^^ dt n f x)
  | 0, e, f => rfl
  | n + 1, e, f => by
    simp only [dt, dt_xor x n e f, Nat.testBit_xor]
    cases dt n e x <;> cases dt n f x <;> cases e.testBit n <;> cases f.testBit n <;> cases x.testBit n <;> rfl
theorem dt_xorR (e : Nat) : ∀ n x y, dt n e (x ^^^ y) = (dt n e x ^^ dt n e y)
  | 0, x, y => rfl
  | n + 1, x, y => by
    simp only [dt, dt_xorR e n x y, Nat.testBit_xor]
    cases dt n e x <;> cases dt n e y <;> cases e.testBit n <;> cases x.testBit n <;> cases y.testBit n <;> rfl
theorem dt_pow (e c : Nat) : ∀ n, dt n e (2 ^ c) = (decide (c < n) && e.testBit c)
  | 0 => by simp [dt]
  | n + 1 => by
    rw [dt, dt_pow e c n, Nat.testBit_two_pow]
    by_cases h : c = n
    · subst h; simp
    · by_cases h2 : c < n
      · simp [h, h2, show c < n + 1 by omega]
      · simp [h, h2, show ¬ c < n + 1 by omega]
theorem dt_none {e : Nat} (x : Nat) : ∀ n, (∀ i, i < n → e.testBit i = false) → dt n e x = false
  | 0, h => rfl
  | n + 1, h => by rw [dt, dt_none x n (fun i hi => h i (by omega)), h n (by omega)]; rfl
theorem dt_same {e : Nat} {x y : Nat} : ∀ n, (∀ i, i < n → e.testBit i = true → x.testBit i = y.testBit i) → dt n e x = dt n e y
  | 0, h => rfl
  | n + 1, h => by
    rw [dt, dt, dt_same n (fun i hi => h i (by omega))]
    by_cases c : e.testBit n = true
    · rw [h n (by omega) c]
    · simp [c]
/-- x fulfils the equation e in W unknowns; bit W is the right side. -/
def Sat (W e x : Nat) : Prop := dt W e x = e.testBit W
theorem Sat.xor {W e f x : Nat} (h1 : Sat W e x) (h2 : Sat W f x) : Sat W (e ^^^ f) x := by
  unfold Sat at *
  rw [dt_xor, h1, h2, Nat.testBit_xor]
theorem Sat.back {W e f x : Nat} (h1 : Sat W (e ^^^ f) x) (h2 : Sat W f x) : Sat W e x := by
  have := h1.xor h2
  rwa [Nat.xor_assoc, Nat.xor_self, Nat.xor_zero] at this
theorem sat_zero (W x : Nat) : Sat W 0 x := by
  unfold Sat
  rw [dt_none x W (fun i _ => Nat.zero_testBit i), Nat.zero_testBit]
def AllS (W : Nat) (es : List Nat) (x : Nat) : Prop := ∀ e ∈ es, Sat W e x
def Solv (W : Nat) (es : List Nat) : Prop := ∃ x, AllS W es x
/-- No unknown below c. -/
def Above (c : Nat) (es : List Nat) : Prop := ∀ e ∈ es, ∀ i, i < c → e.testBit i = false
/-- The equations behind a pivot. -/
def elv (left : List Nat) (c at' i : Nat) : Nat := if (left.getD i 0).testBit c = true then left.getD i 0 ^^^ left.getD at' 0 else left.getD i 0
def elp (left : List Nat) (c at' : Nat) : Nat → List Nat
  | 0 => []
  | k + 1 => if k = at' then elp left c at' k else elp left c at' k ++ [elv left c at' k]
theorem elp_mem (left : List Nat) (c at' : Nat) (e : Nat) : ∀ k, e ∈ elp left c at' k ↔ ∃ i, i < k ∧ i ≠ at' ∧ e = elv left c at' i
  | 0 => by simp [elp]
  | k + 1 => by
    rw [elp]
    split
    · rename_i h
      rw [elp_mem left c at' e k]
      constructor
      · rintro ⟨i, h1, h2, h3⟩; exact ⟨i, by omega, h2, h3⟩
      · rintro ⟨i, h1, h2, h3⟩; exact ⟨i, by omega, h2, h3⟩
    · rename_i h
      rw [List.mem_append, elp_mem left c at' e k, List.mem_singleton]
      constructor
      · rintro (⟨i, h1, h2, h3⟩ | h3)
        · exact ⟨i, by omega, h2, h3⟩
        · exact ⟨k, by omega, h, h3⟩
      · rintro ⟨i, h1, h2, h3⟩
        by_cases e' : i = k
        · subst e'; exact .inr h3
        · exact .inl ⟨i, by omega, h2, h3⟩
theorem mem_getD {l : List Nat} {i : Nat} (h : i < l.length) : l.getD i 0 ∈ l := by
  rw [List.getD_eq_getElem?_getD, List.getElem?_eq_getElem h]
  exact List.getElem_mem h
theorem getD_of_mem {l : List Nat} {e : Nat} (h : e ∈ l) : ∃ i, i < l.length ∧ l.getD i 0 = e := by
  obtain ⟨i, hi, he⟩ := List.mem_iff_getElem.1 h
  exact ⟨i, hi, by rw [List.getD_eq_getElem?_getD, List.getElem?_eq_getElem hi]; simpa using he⟩
/-- One unknown eliminated. -/
theorem elim_step {left : List Nat} {W c at' : Nat} (hc : c < W) (ha : at' < left.length) (hb : (left.getD at' 0).testBit c = true) (hA : Above c left) :
    (Solv W left ↔ Solv W (elp left c at' left.length)) ∧ Above (c + 1) (elp left c at' left.length) := by
  have hp := mem_getD ha
  constructor
  · constructor
    · rintro ⟨x, hx⟩
      refine ⟨x, fun e he => ?_⟩
      obtain ⟨i, h1, h2, rfl⟩ := (elp_mem ..).1 he
      unfold elv
      split
      · exact (hx _ (mem_getD h1)).xor (hx _ hp)
      · exact hx _ (mem_getD h1)
    · rintro ⟨x, hx⟩
      have hN : ∀ i, i < left.length → i ≠ at' → (elv left c at' i).testBit c = false := fun i h1 h2 => by
        unfold elv
        split
        · rename_i h; rw [Nat.testBit_xor, h, hb]; rfl
        · rename_i h; simpa using h
      obtain ⟨y, hy1, hy2⟩ : ∃ y, Sat W (left.getD at' 0) y ∧ ∀ i, i < left.length → i ≠ at' → Sat W (elv left c at' i) y := by
        by_cases h : Sat W (left.getD at' 0) x
        · exact ⟨x, h, fun i h1 h2 => hx _ ((elp_mem ..).2 ⟨i, h1, h2, rfl⟩)⟩
        · refine ⟨x ^^^ 2 ^ c, ?_, fun i h1 h2 => ?_⟩
          · unfold Sat at *
            rw [dt_xorR, dt_pow, hb]
            simp only [hc, decide_true, Bool.and_true, Bool.xor_true]
            cases hh : dt W (left.getD at' 0) x <;> cases hh2 : (left.getD at' 0).testBit W <;> simp_all
          · have h3 := hx _ ((elp_mem ..).2 ⟨i, h1, h2, rfl⟩)
            unfold Sat at *
            rw [dt_xorR, dt_pow, hN i h1 h2]
            simp [h3]
      refine ⟨y, fun e he => ?_⟩
      obtain ⟨i, h1, rfl⟩ := getD_of_mem he
      by_cases e' : i = at'
      · subst e'; exact hy1
      · have h2 := hy2 i h1 e'
        unfold elv at h2
        split at h2
        · exact h2.back hy1
        · exact h2
  · intro e he j hj
    obtain ⟨i, h1, h2, rfl⟩ := (elp_mem ..).1 he
    have a1 := hA _ (mem_getD h1)
    have a2 := hA _ hp
    unfold elv
    split
    · rename_i h
      by_cases e' : j = c
      · subst e'; rw [Nat.testBit_xor, h, hb]; rfl
      · rw [Nat.testBit_xor, a1 j (by omega), a2 j (by omega)]; rfl
    · rename_i h
      by_cases e' : j = c
      · subst e'; simpa using h
      · exact a1 j (by omega)
/-- No equation with the unknown. -/
theorem elim_none {left : List Nat} {c : Nat} (h : ∀ i, i < left.length → (left.getD i 0).testBit c = false) (hA : Above c left) : Above (c + 1) left := by
  intro e he j hj
  by_cases e' : j = c
  · subst e'
    obtain ⟨i, h1, rfl⟩ := getD_of_mem he
    exact h i h1
  · exact hA e he j (by omega)
/-- The end: no unknowns are left. -/
theorem elim_end {left : List Nat} {W : Nat} (hA : Above W left) (hb : ∀ e ∈ left, e < 2 ^ (W + 1)) : Solv W left ↔ ∀ e ∈ left, e = 0 := by
  constructor
  · rintro ⟨x, hx⟩ e he
    have h := hx e he
    unfold Sat at h
    rw [dt_none x W (hA e he)] at h
    apply Nat.eq_of_testBit_eq
    intro i
    rw [Nat.zero_testBit]
    by_cases h1 : i < W
    · exact hA e he i h1
    · by_cases h2 : i = W
      · subst h2; exact h.symm
      · exact Nat.testBit_lt_two_pow (Nat.lt_of_lt_of_le (hb e he) (Nat.pow_le_pow_right (by decide) (by omega)))
  · intro h
    exact ⟨0, fun e he => by rw [h e he]; exact sat_zero W 0⟩
theorem elp_lt {left : List Nat} {W c at' : Nat} (ha : at' < left.length) (hb : ∀ e ∈ left, e < 2 ^ (W + 1)) : ∀ e ∈ elp left c at' left.length, e < 2 ^ (W + 1) := by
  intro e he
  obtain ⟨i, h1, h2, rfl⟩ := (elp_mem ..).1 he
  unfold elv
  split
  · exact Nat.xor_lt_two_pow (hb _ (mem_getD h1)) (hb _ (mem_getD ha))
  · exact hb _ (mem_getD h1)
/-- The least unknown of an equation. -/
def LeadIs (W r l : Nat) : Prop := l < W ∧ r.testBit l = true ∧ ∀ i, i < l → r.testBit i = false
theorem LeadIs.unique {W r l l' : Nat} (h : LeadIs W r l) (h' : LeadIs W r l') : l = l' := by
  rcases Nat.lt_trichotomy l l' with c | c | c
  · have := h'.2.2 l c; rw [h.2.1] at this; cases this
  · exact c
  · have := h.2.2 l' c; rw [h'.2.1] at this; cases this
theorem lead_or (r W : Nat) : ∀ n, n ≤ W → (∃ l, l < n ∧ LeadIs W r l) ∨ ∀ i, i < n → r.testBit i = false
  | 0, _ => .inr fun i hi => by omega
  | n + 1, hn => by
    rcases lead_or r W n (by omega) with ⟨l, h1, h2⟩ | h
    · exact .inl ⟨l, by omega, h2⟩
    · by_cases c : r.testBit n = true
      · exact .inl ⟨n, by omega, by omega, c, h⟩
      · exact .inr fun i hi => by
          by_cases e : i = n
          · subst e; simpa using c
          · exact h i (by omega)
/-- Echelon form: rows with leads, each lead in its own row alone. -/
structure Ech (W : Nat) (rows : List Nat) (ld : Nat → Nat) : Prop where
  lead : ∀ i, i < rows.length → LeadIs W (rows.getD i 0) (ld i)
  own : ∀ i j, i < rows.length → j < rows.length → i ≠ j → (rows.getD j 0).testBit (ld i) = false
  lt : ∀ e ∈ rows, e < 2 ^ (W + 1)
/-- A row less those that are there. -/
def rdc (rows : List Nat) (ld : Nat → Nat) (r : Nat) : Nat → Nat
  | 0 => r
  | k + 1 => if (rdc rows ld r k).testBit (ld k) = true then rdc rows ld r k ^^^ rows.getD k 0 else rdc rows ld r k
theorem rdc_sat {rows : List Nat} {ld : Nat → Nat} {W r x : Nat} (hx : AllS W rows x) : ∀ k, k ≤ rows.length → (Sat W (rdc rows ld r k) x ↔ Sat W r x)
  | 0, _ => Iff.rfl
  | k + 1, hk => by
    have ih := rdc_sat (ld := ld) (r := r) hx k (by omega)
    have hr := hx _ (mem_getD (show k < rows.length by omega))
    rw [rdc]
    split
    · exact ⟨fun h => ih.1 (h.back hr), fun h => (ih.2 h).xor hr⟩
    · exact ih
theorem rdc_lt {rows : List Nat} {ld : Nat → Nat} {W r : Nat} (hr : r < 2 ^ (W + 1)) (h : ∀ e ∈ rows, e < 2 ^ (W + 1)) : ∀ k, k ≤ rows.length → rdc rows ld r k < 2 ^ (W + 1)
  | 0, _ => hr
  | k + 1, hk => by
    have ih := rdc_lt (ld := ld) hr h k (by omega)
    rw [rdc]
    split
    · exact Nat.xor_lt_two_pow ih (h _ (mem_getD (show k < rows.length by omega)))
    · exact ih
theorem rdc_off {rows : List Nat} {ld : Nat → Nat} {W : Nat} (r : Nat) (h : Ech W rows ld) : ∀ k, k ≤ rows.length → ∀ i, i < k → (rdc rows ld r k).testBit (ld i) = false
  | 0, _, i, hi => by omega
  | k + 1, hk, i, hi => by
    rw [rdc]
    by_cases e : i = k
    · subst e
      split
      · rename_i c
        rw [Nat.testBit_xor, c, (h.lead i (by omega)).2.1]; rfl
      · rename_i c; simpa using c
    · have ih := rdc_off r h k (by omega) i (by omega)
      split
      · rw [Nat.testBit_xor, ih, h.own i k (by omega) (by omega) e]; rfl
      · exact ih
/-- The rows after a new one with its lead has been taken out of them. -/
def clr (rows : List Nat) (r l : Nat) : List Nat := rows.map fun e => if e.testBit l = true then e ^^^ r else e
theorem clr_getD {rows : List Nat} {r l i : Nat} (h : i < rows.length) : (clr rows r l).getD i 0 = if (rows.getD i 0).testBit l = true then rows.getD i 0 ^^^ r else rows.getD i 0 := by
  unfold clr
  rw [List.getD_eq_getElem?_getD, List.getElem?_map, List.getElem?_eq_getElem h, List.getD_eq_getElem?_getD, List.getElem?_eq_getElem h]
  rfl
theorem clr_len (rows : List Nat) (r l : Nat) : (clr rows r l).length = rows.length := by simp [clr]
theorem getD_snoc_lt {l : List Nat} {a i : Nat} (h : i < l.length) : (l ++ [a]).getD i 0 = l.getD i 0 := by
  simp only [List.getD]; rw [List.getElem?_append_left h]
theorem getD_snoc_eq {l : List Nat} {a : Nat} : (l ++ [a]).getD l.length 0 = a := by
  simp [List.getD]
theorem ech_add {W : Nat} {rows : List Nat} {ld : Nat → Nat} {r l : Nat} (h : Ech W rows ld) (hr : r < 2 ^ (W + 1)) (hl : LeadIs W r l) (ho : ∀ i, i < rows.length → r.testBit (ld i) = false) :
    Ech W (clr rows r l ++ [r]) (fun i => if i < rows.length then ld i else l) ∧ ∀ x, AllS W (clr rows r l ++ [r]) x ↔ AllS W rows x ∧ Sat W r x := by
  have hne : ∀ i, i < rows.length → ld i ≠ l := fun i hi e => by
    have := ho i hi
    rw [e, hl.2.1] at this; cases this
  have hv : ∀ i, i < rows.length → LeadIs W ((clr rows r l).getD i 0) (ld i) ∧ ((clr rows r l).getD i 0).testBit l = false := fun i hi => by
    have hL := h.lead i hi
    rw [clr_getD hi]
    split
    · rename_i c
      refine ⟨⟨hL.1, by rw [Nat.testBit_xor, hL.2.1, ho i hi]; rfl, fun j hj => ?_⟩, by rw [Nat.testBit_xor, c, hl.2.1]; rfl⟩
      have h1 : ld i < l := by
        rcases Nat.lt_trichotomy (ld i) l with q | q | q
        · exact q
        · exact absurd q (hne i hi)
        · have := hL.2.2 l q; rw [c] at this; cases this
      rw [Nat.testBit_xor, hL.2.2 j hj, hl.2.2 j (by omega)]; rfl
    · rename_i c
      exact ⟨hL, by simpa using c⟩
  constructor
  · refine ⟨fun i hi => ?_, fun i j hi hj hij => ?_, fun e he => ?_⟩
    · simp only [List.length_append, clr_len, List.length_cons, List.length_nil] at hi
      by_cases c : i < rows.length
      · rw [getD_snoc_lt (by rw [clr_len]; exact c), if_pos c]
        exact (hv i c).1
      · obtain rfl : i = (clr rows r l).length := by rw [clr_len]; omega
        rw [getD_snoc_eq, if_neg c]
        exact hl
    · simp only [List.length_append, clr_len, List.length_cons, List.length_nil] at hi hj
      by_cases c : i < rows.length
      · rw [if_pos c]
        by_cases c2 : j < rows.length
        · rw [getD_snoc_lt (by rw [clr_len]; exact c2), clr_getD c2]
          have h1 := h.own i j c c2 hij
          split
          · rw [Nat.testBit_xor, h1, ho i c]; rfl
          · exact h1
        · obtain rfl : j = (clr rows r l).length := by rw [clr_len]; omega
          rw [getD_snoc_eq]
          exact ho i c
      · rw [if_neg c]
        have c2 : j < rows.length := by omega
        rw [getD_snoc_lt (by rw [clr_len]; exact c2)]
        exact (hv j c2).2
    · rcases List.mem_append.1 he with h1 | h1
      · unfold clr at h1
        obtain ⟨e0, h2, rfl⟩ := List.mem_map.1 h1
        split
        · exact Nat.xor_lt_two_pow (h.lt _ h2) hr
        · exact h.lt _ h2
      · rw [List.mem_singleton] at h1; subst h1; exact hr
  · intro x
    constructor
    · intro hx
      have h1 : Sat W r x := hx _ (by simp)
      refine ⟨fun e he => ?_, h1⟩
      have h2 := hx (if e.testBit l = true then e ^^^ r else e) (List.mem_append_left _ (List.mem_map.2 ⟨e, he, rfl⟩))
      split at h2
      · exact h2.back h1
      · exact h2
    · rintro ⟨h1, h2⟩ e he
      rcases List.mem_append.1 he with h3 | h3
      · obtain ⟨e0, h4, rfl⟩ := List.mem_map.1 h3
        split
        · exact (h1 _ h4).xor h2
        · exact h1 _ h4
      · rw [List.mem_singleton] at h3; subst h3; exact h2
/-- The least solution: its free unknowns are 0. -/
def lst (rows : List Nat) (ld : Nat → Nat) (W : Nat) : Nat → Nat
  | 0 => 0
  | k + 1 => lst rows ld W k ||| ((rows.getD k 0 / 2 ^ W) * 2 ^ ld k)
theorem top_or {W e : Nat} (h : e < 2 ^ (W + 1)) : e / 2 ^ W = if e.testBit W = true then 1 else 0 := by
  have h1 : e / 2 ^ W < 2 := by rw [Nat.div_lt_iff_lt_mul (Nat.two_pow_pos W), Nat.mul_comm, ← Nat.pow_succ]; exact h
  have h2 : e.testBit W = decide (e / 2 ^ W % 2 = 1) := by rw [Nat.testBit_eq_decide_div_mod_eq]
  rw [h2]
  generalize e / 2 ^ W = q at h1
  rcases (show q = 0 ∨ q = 1 by omega) with c | c <;> rw [c] <;> simp
theorem lst_bit {W : Nat} {rows : List Nat} {ld : Nat → Nat} (h : Ech W rows ld) : ∀ k, k ≤ rows.length → ∀ j, (lst rows ld W k).testBit j = true ↔ ∃ i, i < k ∧ ld i = j ∧ (rows.getD i 0).testBit W = true
  | 0, _, j => by simp [lst]
  | k + 1, hk, j => by
    have ih := lst_bit h k (by omega) j
    have ht := top_or (h.lt _ (mem_getD (show k < rows.length by omega)))
    rw [lst, Nat.testBit_or, ht]
    constructor
    · intro hh
      rw [Bool.or_eq_true] at hh
      rcases hh with hh | hh
      · obtain ⟨i, h1, h2, h3⟩ := ih.1 hh
        exact ⟨i, by omega, h2, h3⟩
      · split at hh
        · rename_i c
          rw [Nat.one_mul, Nat.testBit_two_pow] at hh
          exact ⟨k, by omega, by simpa using hh, c⟩
        · simp at hh
    · rintro ⟨i, h1, h2, h3⟩
      by_cases e : i = k
      · subst e
        rw [if_pos h3, Nat.one_mul, Nat.testBit_two_pow, h2]
        simp
      · rw [ih.2 ⟨i, by omega, h2, h3⟩]; rfl
theorem ech_inj {W : Nat} {rows : List Nat} {ld : Nat → Nat} (h : Ech W rows ld) {i j : Nat} (hi : i < rows.length) (hj : j < rows.length) (e : ld i = ld j) : i = j := by
  by_cases c : i = j
  · exact c
  · have h1 := h.own i j hi hj c
    have h2 := (h.lead j hj).2.1
    rw [← e, h1] at h2; cases h2
theorem lst_sol {W : Nat} {rows : List Nat} {ld : Nat → Nat} (h : Ech W rows ld) : AllS W rows (lst rows ld W rows.length) := by
  intro e he
  obtain ⟨i, hi, rfl⟩ := getD_of_mem he
  have hb := lst_bit h rows.length (Nat.le_refl _)
  have hL := h.lead i hi
  have e1 : dt W (rows.getD i 0) (lst rows ld W rows.length) = dt W (rows.getD i 0) (if (rows.getD i 0).testBit W = true then 2 ^ ld i else 0) := by
    refine dt_same W fun j hj hbit => ?_
    by_cases c : j = ld i
    · subst c
      by_cases q : (rows.getD i 0).testBit W = true
      · rw [if_pos q, (hb _).2 ⟨i, hi, rfl, q⟩, Nat.testBit_two_pow]; simp
      · rw [if_neg q, Nat.zero_testBit]
        cases hh : (lst rows ld W rows.length).testBit (ld i) with
        | false => rfl
        | true =>
          obtain ⟨i', h1, h2, h3⟩ := (hb _).1 hh
          have := ech_inj h h1 hi h2
          subst this
          exact absurd h3 q
    · have f1 : (if (rows.getD i 0).testBit W = true then 2 ^ ld i else 0).testBit j = false := by
        split
        · rw [Nat.testBit_two_pow]; simp; omega
        · exact Nat.zero_testBit j
      rw [f1]
      cases hh : (lst rows ld W rows.length).testBit j with
      | false => rfl
      | true =>
        obtain ⟨i', h1, h2, h3⟩ := (hb _).1 hh
        have hne : i' ≠ i := fun e => by subst e; exact c h2.symm
        have := h.own i' i h1 hi hne
        rw [h2, hbit] at this; cases this
  unfold Sat
  rw [e1]
  split
  · rename_i q; rw [q, dt_pow, hL.2.1]; simp [hL.1]
  · rename_i q
    have : dt W (rows.getD i 0) 0 = false := by
      have := dt_xorR (rows.getD i 0) W 0 0
      rw [Nat.xor_self] at this
      cases hh : dt W (rows.getD i 0) 0 <;> simp_all
    rw [this]
    simpa using q
/-- It is the least. -/
theorem lst_least {W : Nat} {rows : List Nat} {ld : Nat → Nat} (h : Ech W rows ld) {y : Nat} (hy : AllS W rows y) : lst rows ld W rows.length ≤ y := by
  apply Nat.le_of_not_lt
  intro hlt
  have hx := lst_sol h
  have hb := lst_bit h rows.length (Nat.le_refl _)
  obtain ⟨X, hX⟩ : ∃ X, lst rows ld W rows.length = X := ⟨_, rfl⟩
  rw [hX] at hx hb hlt
  obtain ⟨j, hj1, hj2, hj3⟩ := top_differ X y X (Nat.le_refl _) hlt
  obtain ⟨i, h1, h2, h3⟩ := (hb j).1 hj1
  have a := hx _ (mem_getD h1)
  have b := hy _ (mem_getD h1)
  unfold Sat at a b
  have hL := h.lead i h1
  have e : dt W (rows.getD i 0) (X ^^^ 2 ^ j) = dt W (rows.getD i 0) y := by
    refine dt_same W fun k hk hbit => ?_
    rw [Nat.testBit_xor, Nat.testBit_two_pow]
    by_cases c : j = k
    · subst c; rw [hj1, hj2]; simp
    · have : ld i ≤ k := by
        by_cases q : ld i ≤ k
        · exact q
        · have := hL.2.2 k (by omega); rw [hbit] at this; cases this
      rw [hj3 k (by omega)]
      simp [c]
  rw [dt_xorR, dt_pow, a, ← h2, hL.2.1] at e
  rw [b] at e
  simp [hL.1] at e
end Go.Proofs.YtdnikkmioighkaaDoor

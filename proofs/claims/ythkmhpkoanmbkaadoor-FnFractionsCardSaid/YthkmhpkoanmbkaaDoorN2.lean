/-
  Contracts of natural numbers of any size: trim, naturalOf, plus, minus, compare. Conditions stand in each contract.
-/
import Derived.Test.YthkmhpkoanmbkaaDoorN1
import Derived.Test.YthkmhpkoanmbkaaDoorBlk
namespace Go.Proofs.YthkmhpkoanmbkaaDoor
open Go.RowKit
set_option linter.unusedVariables false

theorem tU : SliceT Tryd.prog 47 77 .u32 4 := ⟨Tryd.underlying47, Tryd.underlying77, info_parts (by kernel_rfl)⟩
/-- A slice of digits. -/
def HasU (w : World) (a : Option Addr) (c : Nat) (xs : List Int) : Prop :=
  xs.length ≤ c ∧ c ≤ maxLen ∧ (a = none → c = 0) ∧ ∀ g o, a = some ⟨g, o, none⟩ → g < w.heap.size ∧ ∀ j, j < xs.length → w.cell? ⟨g, o + j, none⟩ = some (.int .u32 (xs.getD j 0))
def SpotFree (a : Option Addr) : Prop := a = none ∨ ∃ g o, a = some ⟨g, o, none⟩
/-- A natural number. -/
structure NatU (w : World) (a : Option Addr) (c : Nat) (xs : List Int) (m : Int) : Prop where
  has : HasU w a c xs
  spot : SpotFree a
  dig : Dig xs
  norm : Norm xs
  eq : val xs = m
  short : xs.length ≤ 1000
def RetN (m : Int) (w : World) (e : Ending) (w' : World) : Prop :=
  ∃ a c xs, e = .returned (.slice a xs.length c) ∧ NatU w' a c xs m ∧ Below w.heap.size w w'
theorem HasU.later {w w' : World} {a : Option Addr} {c : Nat} {xs : List Int} (h : HasU w a c xs) (hb : Below w.heap.size w w') : HasU w' a c xs :=
  ⟨h.1, h.2.1, h.2.2.1, fun g o e => by
    obtain ⟨h1, h2⟩ := h.2.2.2 g o e
    exact ⟨Nat.lt_of_lt_of_le h1 hb.size, fun j hj => (hb.cell (p := ⟨g, o + j, none⟩) h1).trans (h2 j hj)⟩⟩
theorem NatU.later {w w' : World} {a : Option Addr} {c : Nat} {xs : List Int} {m : Int} (h : NatU w a c xs m) (hb : Below w.heap.size w w') : NatU w' a c xs m :=
  { h with has := h.has.later hb }
theorem HasU.take {w : World} {a : Option Addr} {c : Nat} {xs : List Int} (h : HasU w a c xs) {n : Nat} (hn : n ≤ xs.length) : HasU w a c (xs.take n) := by
  have hl : (xs.take n).length = n := by rw [List.length_take]; omega
  refine ⟨by rw [hl]; have := h.1; omega, h.2.1, h.2.2.1, fun g o e => ?_⟩
  obtain ⟨h1, h2⟩ := h.2.2.2 g o e
  refine ⟨h1, fun j hj => ?_⟩
  rw [hl] at hj
  rw [getD_take xs n j hj]
  exact h2 j (by omega)
theorem take_norm {xs : List Int} {n : Nat} (hn : n ≤ xs.length) (hz : ∀ j, n ≤ j → xs.getD j 0 = 0) (h : n = 0 ∨ xs.getD (n - 1) 0 ≠ 0) : Norm (xs.take n) ∧ val (xs.take n) = val xs := by
  have hl : (xs.take n).length = n := by rw [List.length_take]; omega
  constructor
  · unfold Norm
    rw [hl]
    rcases h with h | h
    · exact .inl h
    · by_cases h0 : n = 0
      · exact .inl h0
      · right; rw [getD_take xs n _ (by omega)]; exact h
  · rw [val_take hn]
    obtain ⟨d, hd⟩ : ∃ d, xs.length = n + d := ⟨xs.length - n, by omega⟩
    have key : ∀ d, pk xs (n + d) = pk xs n := fun d => by
      induction d with
      | zero => rfl
      | succ d ih => rw [Nat.add_succ, pk, ih, hz (n + d) (by omega)]; omega
    unfold val
    rw [hd, key]
theorem OwnI.hasU {base : Nat} {W w : World} {v : Value} {xs : List Int} (h : OwnI .u32 base 77 W w v xs) : ∃ g c, v = .slice (some ⟨g, 0, none⟩) xs.length c ∧ HasU w (some ⟨g, 0, none⟩) c xs ∧ base ≤ g := by
  obtain ⟨g, cap, hv, hb, hlt, hl, hm, hc, _⟩ := h.cell
  refine ⟨g, cap, hv, ⟨hl, hm, fun e => (by cases e), fun g' o' e => ?_⟩, hb⟩
  simp only [Option.some.injEq, Addr.mk.injEq, and_true] at e
  obtain ⟨rfl, rfl⟩ := e
  exact ⟨hlt, fun j hj => by rw [Nat.zero_add]; exact hc j hj⟩

theorem trim_any (xs : List Int) (a : Option Addr) (c : Nat) (w : World) (h : HasU w a c xs) (hs : SpotFree a) (hd : Dig xs) (hl : xs.length ≤ 1000) :
    Calls Tryd.prog 53 #[.slice a xs.length c] w fun e w' => RetN (val xs) w e w' := by
  have H := Lib.hid h
  have HD := Lib.hid hd
  rcases hs with rfl | ⟨g, o, rfl⟩
  · have hc0 : c = 0 := h.2.2.1 rfl
    have hx0 : xs = [] := List.eq_nil_of_length_eq_zero (by have := h.1; omega)
    subst hx0
    subst hc0
    clear h hd
    go_enter Tryd.func53, Tryd.ntmps53
    go_wp2
    go_loop [3] (fun i => i = .int .i64 0) (fun _ => 0)
    case atStart => rfl
    case round =>
      subst hrel
      go_wp2
      go_ret
      exact ⟨none, 0, [], rfl, ⟨H.out, .inl rfl, HD.out, .inl rfl, rfl, by simp⟩, bw_refl _⟩
  · have hcells := Lib.hid (h.2.2.2 g o rfl).2
    have hcap := h.1
    have hcm := h.2.1
    unfold maxLen at hcm
    obtain ⟨L, HL⟩ : ∃ L, Hid (xs.length = L) := ⟨_, Lib.hid rfl⟩
    rw [HL.out] at hl hcap ⊢
    clear h hd
    go_enter Tryd.func53, Tryd.ntmps53
    go_wp2
    go_loop [3] (fun i => ∃ n : Nat, n ≤ L ∧ i = .int .i64 n ∧ Hid (∀ j, n ≤ j → xs.getD j 0 = 0)) (fun i => (intOf i).toNat)
    case atStart => exact ⟨L, Nat.le_refl _, rfl, Lib.hid (fun j hj => by
      rw [← HL.out] at hj
      simp [List.getD, hj])⟩
    case round =>
      obtain ⟨n, hn, rfl, hz⟩ := hrel
      match n, hn, hz with
      | 0, hn, hz =>
        obtain ⟨n1, n2⟩ := take_norm (xs := xs) (n := 0) (Nat.zero_le _) hz.out (.inl rfl)
        have N1 := Lib.hid n1
        have N2 := Lib.hid n2
        clear n1 n2
        go_wp2
        go_ret
        exact ⟨_, c, xs.take 0, rfl, ⟨H.out.take (Nat.zero_le _), .inr ⟨_, _, rfl⟩, HD.out.take 0, N1.out, N2.out, by simp⟩, bw_refl _⟩
      | m + 1, hn, hz =>
        obtain ⟨x, HX⟩ : ∃ x, Hid (xs.getD m 0 = x) := ⟨_, Lib.hid rfl⟩
        have q1 := hcells.out m (by rw [HL.out]; omega)
        rw [HX.out] at q1
        have em : ((m + 1 : Nat) : Int) - 1 = (m : Int) := by omega
        have r1 : (m : Int) < (L : Int) := by omega
        by_cases hx : x = 0
        · have p1 : (x == 0) = true := by simp [hx]
          have HZ : Hid (∀ j, m ≤ j → xs.getD j 0 = 0) := Lib.hid fun j hj => by
            by_cases e : j = m
            · subst e; rw [HX.out]; exact hx
            · exact hz.out j (by omega)
          go_wp2
          go_round
          case rel => exact ⟨m, by omega, by go_num, HZ⟩
          case measure => simp [intOf] <;> omega
        · have p1 : (x == 0) = false := beq_eq_false_iff_ne.2 hx
          have hm1 : m + 1 ≤ xs.length := by rw [HL.out]; exact hn
          obtain ⟨n1, n2⟩ := take_norm (xs := xs) (n := m + 1) hm1 hz.out (.inr (by rw [Nat.add_sub_cancel, HX.out]; exact hx))
          have N1 := Lib.hid n1
          have N2 := Lib.hid n2
          have N3 : Hid ((xs.take (m + 1)).length = m + 1) := Lib.hid (by rw [List.length_take]; omega)
          have HM1 := Lib.hid hm1
          clear n1 n2 hm1
          go_wp2
          go_ret
          exact ⟨_, c, xs.take (m + 1), by rw [N3.out]; rfl, ⟨H.out.take HM1.out, .inr ⟨_, _, rfl⟩, HD.out.take _, N1.out, N2.out, by rw [N3.out]; omega⟩, bw_refl _⟩
theorem trim_same (xs : List Int) (a : Option Addr) (c : Nat) (w : World) (h : HasU w a c xs) (hs : SpotFree a) (hd : Dig xs) (hl : xs.length ≤ 1000) :
    Calls Tryd.prog 53 #[.slice a xs.length c] w fun e w' => ∃ zs, e = .returned (.slice a zs.length c) ∧ NatU w a c zs (val xs) ∧ w' = w := by
  have H := Lib.hid h
  have HD := Lib.hid hd
  rcases hs with rfl | ⟨g, o, rfl⟩
  · have hc0 : c = 0 := h.2.2.1 rfl
    have hx0 : xs = [] := List.eq_nil_of_length_eq_zero (by have := h.1; omega)
    subst hx0
    subst hc0
    clear h hd
    go_enter Tryd.func53, Tryd.ntmps53
    go_wp2
    go_loop [3] (fun i => i = .int .i64 0) (fun _ => 0)
    case atStart => rfl
    case round =>
      subst hrel
      go_wp2
      go_ret
      exact ⟨[], rfl, ⟨H.out, .inl rfl, HD.out, .inl rfl, rfl, by simp⟩, rfl⟩
  · have hcells := Lib.hid (h.2.2.2 g o rfl).2
    have hcap := h.1
    have hcm := h.2.1
    unfold maxLen at hcm
    obtain ⟨L, HL⟩ : ∃ L, Hid (xs.length = L) := ⟨_, Lib.hid rfl⟩
    rw [HL.out] at hl hcap ⊢
    clear h hd
    go_enter Tryd.func53, Tryd.ntmps53
    go_wp2
    go_loop [3] (fun i => ∃ n : Nat, n ≤ L ∧ i = .int .i64 n ∧ Hid (∀ j, n ≤ j → xs.getD j 0 = 0)) (fun i => (intOf i).toNat)
    case atStart => exact ⟨L, Nat.le_refl _, rfl, Lib.hid (fun j hj => by
      rw [← HL.out] at hj
      simp [List.getD, hj])⟩
    case round =>
      obtain ⟨n, hn, rfl, hz⟩ := hrel
      match n, hn, hz with
      | 0, hn, hz =>
        obtain ⟨n1, n2⟩ := take_norm (xs := xs) (n := 0) (Nat.zero_le _) hz.out (.inl rfl)
        have N1 := Lib.hid n1
        have N2 := Lib.hid n2
        clear n1 n2
        go_wp2
        go_ret
        exact ⟨xs.take 0, rfl, ⟨H.out.take (Nat.zero_le _), .inr ⟨_, _, rfl⟩, HD.out.take 0, N1.out, N2.out, by simp⟩, rfl⟩
      | m + 1, hn, hz =>
        obtain ⟨x, HX⟩ : ∃ x, Hid (xs.getD m 0 = x) := ⟨_, Lib.hid rfl⟩
        have q1 := hcells.out m (by rw [HL.out]; omega)
        rw [HX.out] at q1
        have em : ((m + 1 : Nat) : Int) - 1 = (m : Int) := by omega
        have r1 : (m : Int) < (L : Int) := by omega
        by_cases hx : x = 0
        · have p1 : (x == 0) = true := by simp [hx]
          have HZ : Hid (∀ j, m ≤ j → xs.getD j 0 = 0) := Lib.hid fun j hj => by
            by_cases e : j = m
            · subst e; rw [HX.out]; exact hx
            · exact hz.out j (by omega)
          go_wp2
          go_round
          case rel => exact ⟨m, by omega, by go_num, HZ⟩
          case measure => simp [intOf] <;> omega
        · have p1 : (x == 0) = false := beq_eq_false_iff_ne.2 hx
          have hm1 : m + 1 ≤ xs.length := by rw [HL.out]; exact hn
          obtain ⟨n1, n2⟩ := take_norm (xs := xs) (n := m + 1) hm1 hz.out (.inr (by rw [Nat.add_sub_cancel, HX.out]; exact hx))
          have N1 := Lib.hid n1
          have N2 := Lib.hid n2
          have N3 : Hid ((xs.take (m + 1)).length = m + 1) := Lib.hid (by rw [List.length_take]; omega)
          have HM1 := Lib.hid hm1
          clear n1 n2 hm1
          go_wp2
          go_ret
          exact ⟨xs.take (m + 1), by rw [N3.out]; rfl, ⟨H.out.take HM1.out, .inr ⟨_, _, rfl⟩, HD.out.take _, N1.out, N2.out, by rw [N3.out]; omega⟩, rfl⟩
theorem naturalOf_any (n : Int) (w : World) (h0 : 0 ≤ n) (h1 : n ≤ 9223372036854775807) :
    Calls Tryd.prog 46 #[.int .i64 n] w fun e w' => RetN n w e w' := by
  have u1 : IntKind.u32.wrap n = n % 4294967296 := by rw [IntKind.wrap_u32]
  have u2 : IntKind.u32.wrap (n / 4294967296) = n / 4294967296 := by rw [IntKind.wrap_u32]; omega
  obtain ⟨x, hx⟩ : ∃ x, n % 4294967296 = x := ⟨_, rfl⟩
  obtain ⟨y, hy⟩ : ∃ y, n / 4294967296 = y := ⟨_, rfl⟩
  rw [hx] at u1
  have u3 : IntKind.u32.wrap y = y := by rw [← hy]; exact u2
  rw [hy] at u2
  have hb : 0 ≤ x ∧ x ≤ 4294967295 ∧ 0 ≤ y ∧ y ≤ 4294967295 := by omega
  have hv : Hid (val [x, y] = n) := Lib.hid (by simp [val, pk, bp]; omega)
  have hd : Hid (Dig [x, y]) := Lib.hid fun j => by
    match j with
    | 0 => simp; omega
    | 1 => simp; omega
    | j + 2 => simp
  clear hx
  go_enter Tryd.func46, Tryd.ntmps46
  go_wp2_with fail
  have hU : HasU (w.alloc (.cells #[.int .u32 x, .int .u32 y] 77)) (some ⟨w.heap.size, 0, none⟩) 2 [x, y] := by
    refine ⟨by simp, by unfold maxLen; decide, fun e => (by cases e), fun g o e => ?_⟩
    simp only [Option.some.injEq, Addr.mk.injEq, and_true] at e
    obtain ⟨rfl, rfl⟩ := e
    refine ⟨by simp, fun j hj => ?_⟩
    match j, hj with
    | 0, _ => simp
    | 1, _ => simp
    | j + 2, hj => simp at hj; omega
  refine (trim_any [x, y] _ 2 _ hU (.inr ⟨_, _, rfl⟩) hd.out (by simp)).mono ?_
  rintro e w1 ⟨a, c, zs, rfl, hn, hb1⟩
  rw [hv.out] at hn
  go_wp2
  go_ret
  exact ⟨a, c, zs, rfl, hn, bw_call (bw_alloc (bw_refl _) _) hb1⟩
end Go.Proofs.YthkmhpkoanmbkaaDoor

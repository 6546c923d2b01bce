/-
  Small plain facts for the walk of FnAllWords.
-/
import Derived.Test.YtdnikkmioighkaaDoorM28
import Derived.Test.YtdnikkmioighkaaDoorR8
import Derived.Test.YtdnikkmioighkaaDoorT6
namespace Go.Proofs.YtdnikkmioighkaaDoor
open Go.RowKit
set_option linter.unusedVariables false

theorem wrap_pow {V : Nat} (h : V ≤ 6) : IntKind.i64.wrap (2 ^ V) = ((2 ^ V : Nat) : Int) := by
  have : V = 0 ∨ V = 1 ∨ V = 2 ∨ V = 3 ∨ V = 4 ∨ V = 5 ∨ V = 6 := by omega
  rcases this with rfl | rfl | rfl | rfl | rfl | rfl | rfl <;> decide +kernel
theorem half_pow (V : Nat) : V = 0 ∨ ∃ h, 2 ^ V = 2 * h := by
  by_cases c : V = 0
  · exact .inl c
  · exact .inr ⟨2 ^ (V - 1), by rw [Nat.mul_comm, ← Nat.pow_succ, show (V - 1).succ = V by omega]⟩
theorem pair_bits {p : Nat} {b y : Int} (hp : p = 0 ∨ p = 1) (hb : b = 0 ∨ b = 1) (hy : y = 0 ∨ y = 1) : ∃ c, bits .and .i64 (p : Int) b = c ∧ bits .xor .i64 (48 + y) c = 48 + if p = 1 then (y + b) % 2 else y := by
  rcases hp with rfl | rfl <;> rcases hb with rfl | rfl <;> rcases hy with rfl | rfl <;> exact ⟨_, rfl, by decide +kernel⟩
theorem row_facts {g : Nat → Int} {b : Int} {k N : Nat} (hg : ∀ i, g i = 0 ∨ g i = 1) (hb : b = 0 ∨ b = 1) (hlt : k < N) (hn : N ≤ 16) :
    ∃ (h q p : Nat) (y c d : Int), k / 2 + 1 = q ∧ k / 2 ≤ 64 ∧ g (k / 2) = y ∧ (wrap64 ((k : Int) / 2) = (h : Int) ∧ wrap64 ((h : Int) + 1) = (q : Int) ∧ IntKind.i64.wrap ((k : Int) / 2) = (h : Int) ∧ IntKind.i64.wrap ((h : Int) + 1) = (q : Int) ∧ wrap64 (48 + y) = 48 + y) ∧ bits .and .i64 (k : Int) 1 = (p : Int) ∧ bits .and .i64 (p : Int) b = c ∧ IntKind.i64.wrap (48 + y) = 48 + y ∧ bits .xor .i64 (48 + y) c = d ∧ IntKind.u8.wrap d = d ∧ tbl g b (k + 1) = tbl g b k ++ [d] ∧ ¬ 9223372036854775807 < k + 1 ∧ (0 ≤ y ∧ y ≤ 1) ∧ (k : Int) < N ∧ (0 : Int) ≤ k := by
  have hand := i64_and_nat k 1 (by omega) (by decide)
  rw [Nat.and_one_is_mod] at hand
  have hgk := hg (k / 2)
  obtain ⟨c, e1, e2⟩ := pair_bits (p := k % 2) (by omega) hb hgk
  have hd : (48 + if k % 2 = 1 then (g (k / 2) + b) % 2 else g (k / 2)) = 48 ∨ (48 + if k % 2 = 1 then (g (k / 2) + b) % 2 else g (k / 2)) = 49 := by split <;> omega
  refine ⟨k / 2, k / 2 + 1, k % 2, g (k / 2), c, _, rfl, by omega, rfl, ⟨?_, ?_, ?_, ?_, ?_⟩, hand, e1, ?_, e2, ?_, tbl_succ g b k, by omega, by omega, by omega, by omega⟩
  · rw [IntWalk.wrap64_in _ ⟨by omega, by omega⟩]; omega
  · rw [IntWalk.wrap64_in _ ⟨by omega, by omega⟩]; omega
  · rw [IntKind.wrap_i64]; omega
  · rw [IntKind.wrap_i64]; omega
  · exact IntWalk.wrap64_in _ ⟨by omega, by omega⟩
  · rcases hgk with e | e <;> rw [e] <;> decide
  · rcases hd with e | e <;> rw [e] <;> decide
theorem str_snoc {xs : List Int} {d : Int} : strOfNums xs ++ strOfNums [d] = strOfNums (xs ++ [d]) := by
  apply ByteArray.ext
  apply Array.toList_inj.1
  rw [ByteArray.data_append, Array.toList_append, strOfNums_data, strOfNums_data, strOfNums_data, List.map_append]
theorem conv1 (d : Int) (w : World) : (convert 25 9 (.slice (some ⟨w.heap.size, 0, none⟩) 1 1)).run Tryd.prog (w.alloc (.cells #[.int .u8 d] 5)) = .ok (.string (strOfNums [d])) (w.alloc (.cells #[.int .u8 d] 5)) := by
  refine run_convert_bytes_arg _ 25 5 tB.under tB.elem w.heap.size 0 1 1 [d] rfl (fun i hi => ?_) 9 Tryd.underlying9
  obtain rfl : i = 0 := by simpa using hi
  rw [cell_of_row _ _ _ _ _ _ (heap_alloc_new w _)]; rfl
theorem single_end {V N i j : Nat} {b : Int} {cb : Bool} (hev : V = 0 ∨ ∃ h, N = 2 * h) (hN : 2 ^ V = N) (h0 : 0 < N) (hij : 2 * i = j) (hj : j = 0 ∨ j ≤ N) (he : ¬ j + 1 < N) (hcb : cb = true ↔ (i = 0 ∨ b = 1)) : cb = true ↔ (V = 0 ∨ b = 1) := by
  rw [hcb]
  by_cases c : V = 0
  · subst c
    have : N = 1 := hN.symm
    clear hev hcb
    exact ⟨fun _ => .inl rfl, fun _ => .inl (by omega)⟩
  · obtain ⟨h, hh⟩ := hev.resolve_left c
    clear hev hcb
    have : ¬ i = 0 := by omega
    simp [c, this]
theorem pair_at {g : Nat → Int} {b : Int} {N i j : Nat} {T : ByteArray} (hg : ∀ i, g i = 0 ∨ g i = 1) (hb : b = 0 ∨ b = 1) (hT : ∀ x, x < N → byt T x = 48 + if x % 2 = 1 then (g (x / 2) + b) % 2 else g (x / 2)) (hij : 2 * i = j) (hlt : j + 1 < N) (hs : T.size = N) (hN : N ≤ 16) :
    ∃ (u v : Int) (h1 : j < T.size) (h2 : j + 1 < T.size), ((T[j]'h1).toNat : Int) = u ∧ ((T[j + 1]'h2).toNat : Int) = v ∧ (u != v) = decide (b = 1) ∧ (j : Int) + 1 < T.size ∧ (0 : Int) ≤ (j : Int) + 1 ∧ (j : Int) < T.size ∧ wrap64 ((j : Int) + 1) = (j : Int) + 1 ∧ wrap64 ((j : Int) + 2) = (j : Int) + 2 := by
  have h1 := hT j (by omega)
  have h2 := hT (j + 1) hlt
  rw [if_neg (by omega)] at h1
  rw [if_pos (by omega), show (j + 1) / 2 = j / 2 by omega] at h2
  rw [byt_at T (by omega)] at h1
  rw [byt_at T (by omega)] at h2
  refine ⟨_, _, by omega, by omega, h1, h2, ?_, by omega, by omega, by omega, IntWalk.wrap64_in _ ⟨by omega, by omega⟩, IntWalk.wrap64_in _ ⟨by omega, by omega⟩⟩
  rcases hg (j / 2) with e | e <;> rcases hb with rfl | rfl <;> rw [e] <;> decide
theorem pair_le {V N i j : Nat} (hev : V = 0 ∨ ∃ h, N = 2 * h) (hN : 2 ^ V = N) (hij : 2 * i = j) (hlt : j + 1 < N) : j + 2 = 0 ∨ j + 2 ≤ N := by
  right
  by_cases c : V = 0
  · subst c
    have : N = 1 := hN.symm
    clear hev
    omega
  · obtain ⟨h, hh⟩ := hev.resolve_left c
    clear hev
    omega
theorem single_next {i : Nat} {b : Int} {cb : Bool} (hb : b = 0 ∨ b = 1) (hcb : cb = true ↔ (i = 0 ∨ b = 1)) : (cb && decide (b = 1)) = true ↔ (i + 1 = 0 ∨ b = 1) := by
  rw [Bool.and_eq_true, hcb, decide_eq_true_eq]
  constructor
  · rintro ⟨_, h⟩; exact .inr h
  · rintro (h | h)
    · omega
    · exact ⟨.inr h, h⟩
theorem left2 {N j : Nat} (h : j + 1 < N) : N + 1 - (intOf (.int .i64 ((j + 2 : Nat) : Int))).toNat < N + 1 - (intOf (.int .i64 (j : Int))).toNat := by
  simp only [intOf, Int.toNat_natCast]; omega
theorem take_sum_bd8 {xs : List Int} (h : ∀ x ∈ xs, 1 ≤ x) (k : Nat) : 0 ≤ (xs.take k).sum ∧ (xs.take k).sum ≤ xs.sum := by
  have nn : ∀ l : List Int, (∀ x ∈ l, 1 ≤ x) → 0 ≤ l.sum := by
    intro l
    induction l with
    | nil => intro _; simp
    | cons a l ih =>
      intro hl
      have := ih (fun x hx => hl x (List.mem_cons_of_mem _ hx))
      have := hl a List.mem_cons_self
      simp only [List.sum_cons]; omega
  have h1 := nn (xs.take k) (fun x hx => h x (List.mem_of_mem_take hx))
  have h2 := nn (xs.drop k) (fun x hx => h x (List.mem_of_mem_drop hx))
  have e : (xs.take k).sum + (xs.drop k).sum = xs.sum := by rw [← List.sum_append, List.take_append_drop]
  omega
theorem nl_sum : ∀ L : List Nat, (nl L).sum = ((L.sum : Nat) : Int)
  | [] => rfl
  | a :: L => by
    have := nl_sum L
    simp only [nl, List.map_cons, List.sum_cons] at this ⊢
    rw [this]; omega
/-- What the walk asks of a place in the list of lengths. -/
theorem len_at {L : List Nat} {N k : Nat} (hp : L.Pairwise (· ≤ ·)) (hb : ∀ v ∈ L, 1 ≤ v ∧ v ≤ N) (hs : L.sum ≤ N) (hN : N ≤ 16) (hk : k < (nl L).length) :
    ∃ (v s s' : Int), (nl L).getD k 0 = v ∧ ((nl L).take k).sum = s ∧ ((nl L).take (k + 1)).sum = s' ∧ s + v = s' ∧ wrap64 (s + v) = s' ∧ IntKind.i64.wrap (s + v) = s' ∧ decide (v < 1) = false ∧ (k : Int) < ((nl L).length : Int) ∧ (0 : Int) ≤ k ∧ (k = 0 ∨ ∃ (k0 : Nat) (p : Int), k0 + 1 = k ∧ k0 < (nl L).length ∧ (nl L).getD k0 0 = p ∧ decide (v < p) = false ∧ (k : Int) - 1 = (k0 : Int) ∧ wrap64 ((k : Int) - 1) = (k0 : Int) ∧ IntKind.i64.wrap ((k : Int) - 1) = (k0 : Int) ∧ decide ((0 : Int) < (k : Int)) = true ∧ (k0 : Int) < ((nl L).length : Int) ∧ (0 : Int) ≤ k0) := by
  have hall : ∀ x ∈ nl L, 1 ≤ x ∧ x ≤ N := fun x hx => by
    obtain ⟨v, hv, rfl⟩ := List.mem_map.1 hx
    have := hb v hv; omega
  have hlen := nl_len L
  have hL : k < L.length := by omega
  have hv := hall ((nl L).getD k 0) (by rw [List.getD_eq_getElem?_getD, List.getElem?_eq_getElem hk]; exact List.getElem_mem _)
  have s1 := take_sum_bd8 (fun x hx => (hall x hx).1) k
  have s2 := take_sum_bd8 (fun x hx => (hall x hx).1) (k + 1)
  have e : ((nl L).take (k + 1)).sum = ((nl L).take k).sum + (nl L).getD k 0 := by
    rw [List.take_add_one, List.sum_append, List.getElem?_eq_getElem hk]
    simp [List.getD, hk]
  have hsum := nl_sum L
  have hlast : L.length ≤ L.sum := by
    have aux : ∀ l : List Nat, (∀ v ∈ l, 1 ≤ v) → l.length ≤ l.sum := by
      intro l
      induction l with
      | nil => intro _; simp
      | cons a l ih =>
        intro h
        have h1 := ih (fun v hv => h v (List.mem_cons_of_mem _ hv))
        have h2 := h a List.mem_cons_self
        simp only [List.sum_cons, List.length_cons]; omega
    exact aux L (fun v hv => (hb v hv).1)
  refine ⟨_, _, _, rfl, rfl, rfl, e.symm, ?_, ?_, decide_eq_false (by omega), by omega, by omega, ?_⟩
  · rw [← e]; exact IntWalk.wrap64_in _ ⟨by omega, by omega⟩
  · rw [← e, IntKind.wrap_i64]; omega
  · by_cases h0 : k = 0
    · exact .inl h0
    · right
      obtain ⟨k0, rfl⟩ : ∃ k0, k = k0 + 1 := ⟨k - 1, by omega⟩
      have hle : (nl L).getD k0 0 ≤ (nl L).getD (k0 + 1) 0 := by
        rw [nl_getD, nl_getD]
        have := List.pairwise_iff_getElem.1 hp k0 (k0 + 1) (by omega) hL (by omega)
        rw [List.getD_eq_getElem?_getD, List.getD_eq_getElem?_getD, List.getElem?_eq_getElem hL, List.getElem?_eq_getElem (show k0 < L.length by omega)]
        simp only [Option.getD_some]; omega
      refine ⟨k0, _, rfl, by omega, rfl, decide_eq_false (by omega), by omega, ?_, ?_, decide_eq_true (by omega), by omega, by omega⟩
      · rw [IntWalk.wrap64_in _ ⟨by omega, by omega⟩]; omega
      · rw [IntKind.wrap_i64]; omega
theorem end_law {L : List Nat} {V N : Nat} {b : Int} {cb : Bool} (h : L.sum = N ↔ (V = 0 ∨ b = 1)) (hcb : cb = true ↔ (V = 0 ∨ b = 1)) (hs : L.sum ≤ N) : ((nl L).sum == (N : Int)) = cb ∧ decide ((nl L).sum ≤ (N : Int)) = true := by
  rw [nl_sum]
  refine ⟨?_, decide_eq_true (by omega)⟩
  rw [Bool.eq_iff_iff, hcb, ← h, beq_iff_eq]
  omega
theorem num2 (j : Nat) : Value.int .i64 ((j : Int) + 2) = .int .i64 ((j + 2 : Nat) : Int) := by simp
theorem num1 (j : Nat) : Value.int .i64 ((j : Int) + 1) = .int .i64 ((j + 1 : Nat) : Int) := by simp
theorem twice_next {i j : Nat} (h : 2 * i = j) : 2 * (i + 1) = j + 2 := by omega
theorem pos_cast {M : Nat} (h : 0 < M) : (0 : Int) < (M : Int) := by omega
theorem one_wrap {k M : Nat} (h : k < M) (hM : M ≤ 16) : wrap64 ((k : Int) + 1) = (k : Int) + 1 := IntWalk.wrap64_in _ ⟨by omega, by omega⟩
theorem exit_facts {j N : Nat} (hj : j = 0 ∨ j ≤ N) (he : ¬ j + 1 < N) (hN : N ≤ 16) : wrap64 ((j : Int) + 1) = (j : Int) + 1 ∧ ¬ ((j : Int) + 1 < (N : Int)) := ⟨IntWalk.wrap64_in _ ⟨by omega, by omega⟩, by omega⟩
theorem small_wrap {k M : Nat} (h : k < M) (hM : M ≤ 16) : wrap64 (k : Int) = (k : Int) := IntWalk.wrap64_in _ ⟨by omega, by omega⟩
theorem left3 {N j : Nat} (h : j + 1 < N) : N + 1 - (intOf (.int .i64 ((j : Int) + 2))).toNat < N + 1 - (intOf (.int .i64 (j : Int))).toNat := by
  simp only [intOf]; omega
theorem left4 {N j : Nat} (h : j < N) : N - (intOf (.int .i64 ((j : Int) + 1))).toNat < N - (intOf (.int .i64 (j : Int))).toNat := by
  simp only [intOf]; omega
theorem left1 {N k : Nat} (h : k < N) : N - (intOf (.int .i64 ((k + 1 : Nat) : Int))).toNat < N - (intOf (.int .i64 (k : Int))).toNat := by
  simp only [intOf, Int.toNat_natCast]; omega
end Go.Proofs.YtdnikkmioighkaaDoor

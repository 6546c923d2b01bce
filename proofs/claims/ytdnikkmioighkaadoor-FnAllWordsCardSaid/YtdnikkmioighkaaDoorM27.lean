/-
  Plain laws: the cycles of a function have all states exactly if no two states lead to the same one. No program.
-/
import Derived.Test.YtdnikkmioighkaaDoorM20
namespace Go.Proofs.YtdnikkmioighkaaDoor
set_option linter.unusedVariables false

def cycE (f : Nat → Nat) (n m : Nat) : List Nat := (List.range (perOf f n m)).map (fun j => jt f j m)
theorem cycE_len (f : Nat → Nat) (n m : Nat) : (cycE f n m).length = perOf f n m := by simp [cycE]
theorem flat_len (f : Nat → Nat) (n : Nat) : ∀ l : List Nat, (l.flatMap (cycE f n)).length = (l.map (perOf f n)).sum
  | [] => by simp
  | a :: l => by
    rw [List.flatMap_cons, List.length_append, cycE_len, flat_len f n l, List.map_cons, List.sum_cons]
theorem per_of {f : Nat → Nat} {n m : Nat} (hf : ∀ x, x < n → f x < n) (hm : m < n) (hc : Cyc f m) : IsPer f m (perOf f n m) := by
  obtain ⟨p, hp⟩ := hc
  rw [perOf_eq hp (hp.le hf hm)]; exact hp
theorem cycE_nodup {f : Nat → Nat} {n m : Nat} (h : IsPer f m (perOf f n m)) : (cycE f n m).Nodup := by
  unfold cycE
  rw [List.Nodup, List.pairwise_map]
  refine List.Pairwise.imp_of_mem (R := fun a b => a < b) ?_ List.pairwise_lt_range
  intro a b ha hb hab e
  rw [List.mem_range] at ha hb
  have h1 : jt f (perOf f n m - b) (jt f a m) = m := by
    rw [e, ← jt_add, show perOf f n m - b + b = perOf f n m by omega]; exact h.2.1
  rw [← jt_add] at h1
  exact h.2.2 (perOf f n m - b + a) (by omega) (by omega) h1
theorem cycE_mem {f : Nat → Nat} {n m y : Nat} : y ∈ cycE f n m ↔ ∃ j, j < perOf f n m ∧ jt f j m = y := by
  simp [cycE]
theorem orbit_least {f : Nat → Nat} {a b i j : Nat} (ha : Cyc f a) (hl : Lst f b) (h : jt f i a = jt f j b) : b ≤ a := by
  obtain ⟨k, hk⟩ := cyc_back ha i
  have := hl (k + j)
  rw [jt_add, ← h, hk] at this
  exact this
theorem flat_nodup {f : Nat → Nat} {n : Nat} (hf : ∀ x, x < n → f x < n) : ∀ l : List Nat, l.Nodup → (∀ m ∈ l, m < n ∧ Cyc f m ∧ Lst f m) → (l.flatMap (cycE f n)).Nodup
  | [], _, _ => by simp
  | a :: l, h1, h2 => by
    rw [List.flatMap_cons, List.nodup_append]
    obtain ⟨h3, h4⟩ := List.nodup_cons.1 h1
    obtain ⟨a1, a2, a3⟩ := h2 a (List.mem_cons_self ..)
    refine ⟨cycE_nodup (per_of hf a1 a2), flat_nodup hf l h4 (fun m hm => h2 m (List.mem_cons_of_mem _ hm)), ?_⟩
    rintro x hx y hy rfl
    obtain ⟨i, hi, rfl⟩ := cycE_mem.1 hx
    obtain ⟨b, hb, hy⟩ := List.mem_flatMap.1 hy
    obtain ⟨j, hj, he⟩ := cycE_mem.1 hy
    obtain ⟨b1, b2, b3⟩ := h2 b (List.mem_cons_of_mem _ hb)
    have e1 := orbit_least b2 a3 he
    have e2 := orbit_least a2 b3 he.symm
    obtain rfl : a = b := by omega
    exact h3 hb
theorem nodup_ge {l : List Nat} : ∀ n, (∀ x, x < n → x ∈ l) → n ≤ l.length := by
  intro n h
  have h1 : (List.range n).Nodup := List.nodup_range
  have h2 := h1.length_le_of_subset (l₂ := l) (fun x hx => h x (List.mem_range.1 hx))
  rwa [List.length_range] at h2
theorem tc_sum {f : Nat → Nat} {n : Nat} {out : List Nat} (hf : ∀ x, x < n → f x < n) (h : SpecL f n n out) :
    out.sum ≤ n ∧ (out.sum = n ↔ ∀ x y, x < n → y < n → f x = f y → x = y) := by
  obtain ⟨ms, m1, m2, rfl⟩ := h
  have hnd := flat_nodup hf ms m1 (fun m hm => (m2 m).1 hm)
  have hbd : ∀ x ∈ ms.flatMap (cycE f n), x < n ∧ Cyc f x := fun x hx => by
    obtain ⟨m, hm, hx⟩ := List.mem_flatMap.1 hx
    obtain ⟨j, hj, rfl⟩ := cycE_mem.1 hx
    obtain ⟨a, ⟨p, hp⟩, _⟩ := (m2 m).1 hm
    exact ⟨jt_lt hf a j, p, Cyc.step hp j⟩
  rw [← flat_len]
  have hle := nodup_len hnd (fun x hx => (hbd x hx).1)
  refine ⟨hle, fun he x y hx hy hxy => ?_, fun hinj => ?_⟩
  · have hall : ∀ z, z < n → z ∈ ms.flatMap (cycE f n) := fun z hz => by
      apply Classical.byContradiction
      intro hc
      have h1 := nodup_len (l := z :: ms.flatMap (cycE f n)) (s := n) (List.nodup_cons.2 ⟨hc, hnd⟩) (fun u hu => by
        rcases List.mem_cons.1 hu with rfl | hu
        · exact hz
        · exact (hbd u hu).1)
      rw [List.length_cons] at h1
      omega
    obtain ⟨p, hp⟩ := (hbd x (hall x hx)).2
    obtain ⟨q, hq⟩ := (hbd y (hall y hy)).2
    have e1 : jt f (q * p) x = x := jt_mul hp.2.1 q
    have e2 : jt f (p * q) y = y := jt_mul hq.2.1 p
    have hpos : 0 < p * q := Nat.mul_pos hp.1 hq.1
    obtain ⟨t, ht⟩ : ∃ t, p * q = t + 1 := ⟨p * q - 1, by omega⟩
    rw [Nat.mul_comm q p, ht] at e1
    rw [ht] at e2
    rw [jt_add] at e1 e2
    have o : ∀ z, jt f 1 z = f z := fun z => rfl
    rw [o] at e1 e2
    rw [hxy] at e1
    omega
  · refine Nat.le_antisymm hle (nodup_ge n fun x hx => ?_)
    obtain ⟨i, j, hij, hj, he⟩ := pigeon n (fun i => jt f i x) (fun i _ => jt_lt hf hx i)
    have hcan : ∀ i j, i ≤ j → jt f i x = jt f j x → x = jt f (j - i) x := by
      intro i
      induction i with
      | zero => intro j _ h; exact h
      | succ i ih =>
        intro j hj h
        obtain ⟨j', rfl⟩ : ∃ j', j = j' + 1 := ⟨j - 1, by omega⟩
        rw [Nat.add_comm i 1, Nat.add_comm j' 1, jt_add, jt_add] at h
        have := ih j' (by omega) (hinj _ _ (jt_lt hf hx i) (jt_lt hf hx j') h)
        rwa [show j' + 1 - (i + 1) = j' - i by omega]
    have hper := hcan i j (by omega) he
    have hc := cyc_of (show 1 ≤ j - i by omega) hper.symm
    obtain ⟨p, hp⟩ := hc
    obtain ⟨t, ht, hl⟩ := least_on hp
    have hmn : jt f t x < n := jt_lt hf hx t
    have hmc : Cyc f (jt f t x) := ⟨p, Cyc.step hp t⟩
    obtain ⟨k, hk⟩ := cyc_back ⟨p, hp⟩ t
    have hpm := per_of hf hmn hmc
    rw [List.mem_flatMap]
    refine ⟨jt f t x, (m2 _).2 ⟨hmn, hmc, hl⟩, cycE_mem.2 ⟨k % perOf f n (jt f t x), Nat.mod_lt _ hpm.1, ?_⟩⟩
    rw [← jt_mod hpm.2.1]; exact hk
theorem tc_some {f : Nat → Nat} {n : Nat} {out : List Nat} (hf : ∀ x, x < n → f x < n) (hn : 0 < n) (h : SpecL f n n out) : out ≠ [] := by
  obtain ⟨ms, m1, m2, rfl⟩ := h
  obtain ⟨i, j, hij, hj, he⟩ := pigeon n (fun i => jt f i 0) (fun i _ => jt_lt hf hn i)
  have h1 : jt f (j - i) (jt f i 0) = jt f i 0 := by
    rw [← jt_add, show j - i + i = j by omega]; exact he.symm
  obtain ⟨p, hp⟩ := cyc_of (show 1 ≤ j - i by omega) h1
  obtain ⟨t, ht, hl⟩ := least_on hp
  have hm := (m2 (jt f t (jt f i 0))).2 ⟨jt_lt hf (jt_lt hf hn i) t, ⟨p, Cyc.step hp t⟩, hl⟩
  intro e
  rw [List.map_eq_nil_iff] at e
  rw [e] at hm
  cases hm
end Go.Proofs.YtdnikkmioighkaaDoor

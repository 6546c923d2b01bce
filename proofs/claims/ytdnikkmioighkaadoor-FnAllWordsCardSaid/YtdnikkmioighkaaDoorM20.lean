/-
  The cycles of a map of the numbers below n to themselves: two ways to list their lengths. Plain numbers, no program.
-/
import Derived.Test.YtdnikkmioighkaaDoorM1
namespace Go.Proofs.YtdnikkmioighkaaDoor
set_option linter.unusedVariables false

/-- k steps. -/
def jt (f : Nat → Nat) : Nat → Nat → Nat
  | 0, x => x
  | k + 1, x => f (jt f k x)
theorem jt_add (f : Nat → Nat) (x : Nat) : ∀ j k, jt f (j + k) x = jt f j (jt f k x)
  | 0, k => by rw [Nat.zero_add]; rfl
  | j + 1, k => by rw [Nat.succ_add, jt, jt_add f x j k]; rfl
theorem jt_lt {f : Nat → Nat} {n : Nat} (hf : ∀ x, x < n → f x < n) {x : Nat} (hx : x < n) : ∀ k, jt f k x < n
  | 0 => hx
  | k + 1 => hf _ (jt_lt hf hx k)
/-- m comes again after p steps, not before. -/
def IsPer (f : Nat → Nat) (m p : Nat) : Prop := 1 ≤ p ∧ jt f p m = m ∧ ∀ j, 1 ≤ j → j < p → jt f j m ≠ m
theorem IsPer.unique {f : Nat → Nat} {m p q : Nat} (h : IsPer f m p) (h' : IsPer f m q) : p = q := by
  rcases Nat.lt_trichotomy p q with c | c | c
  · exact absurd h.2.1 (h'.2.2 p h.1 c)
  · exact c
  · exact absurd h'.2.1 (h.2.2 q h'.1 c)
def Cyc (f : Nat → Nat) (m : Nat) : Prop := ∃ p, IsPer f m p
def Lst (f : Nat → Nat) (m : Nat) : Prop := ∀ j, m ≤ jt f j m
theorem least_such (P : Nat → Prop) : ∀ n, P n → ∃ p, P p ∧ ∀ j, j < p → ¬ P j := by
  intro n
  induction n using Nat.strongRecOn with
  | _ n ih =>
    intro h
    by_cases c : ∃ j, j < n ∧ P j
    · obtain ⟨j, h1, h2⟩ := c
      exact ih j h1 h2
    · exact ⟨n, h, fun j hj hp => c ⟨j, hj, hp⟩⟩
theorem cyc_of {f : Nat → Nat} {m q : Nat} (hq : 1 ≤ q) (h : jt f q m = m) : Cyc f m := by
  obtain ⟨p, h1, h2⟩ := least_such (fun p => 1 ≤ p ∧ jt f p m = m) q ⟨hq, h⟩
  exact ⟨p, h1.1, h1.2, fun j hj hjp e => h2 j hjp ⟨hj, e⟩⟩
theorem jt_mul {f : Nat → Nat} {m p : Nat} (h : jt f p m = m) : ∀ k, jt f (k * p) m = m
  | 0 => by rw [Nat.zero_mul]; rfl
  | k + 1 => by rw [Nat.succ_mul, jt_add, h, jt_mul h k]
theorem jt_mod {f : Nat → Nat} {m p : Nat} (h : jt f p m = m) (j : Nat) : jt f j m = jt f (j % p) m := by
  conv => lhs; rw [← Nat.mod_add_div j p, jt_add, Nat.mul_comm, jt_mul h]
theorem IsPer.le {f : Nat → Nat} {m p n : Nat} (h : IsPer f m p) (hf : ∀ x, x < n → f x < n) (hm : m < n) : p ≤ n := by
  apply Nat.le_of_not_lt
  intro hlt
  obtain ⟨i, j, hij, hj, he⟩ := pigeon n (fun i => jt f i m) (fun i _ => jt_lt hf hm i)
  have e1 : jt f (p - j + i) m = m := by
    have : jt f (p - j + j) m = m := by rw [Nat.sub_add_cancel (by omega)]; exact h.2.1
    rw [jt_add] at this ⊢
    rw [he]; exact this
  exact h.2.2 _ (by omega) (by omega) e1
/-- Reach: y lies on the way from x. -/
theorem cyc_back {f : Nat → Nat} {m : Nat} (h : Cyc f m) (j : Nat) : ∃ k, jt f k (jt f j m) = m := by
  obtain ⟨p, h1, h2, _⟩ := h
  refine ⟨j * p - j, ?_⟩
  rw [← jt_add, Nat.sub_add_cancel (Nat.le_mul_of_pos_right j (by omega)), jt_mul h2]
theorem Cyc.step {f : Nat → Nat} {m p : Nat} (h : IsPer f m p) (j : Nat) : IsPer f (jt f j m) p := by
  refine ⟨h.1, by rw [← jt_add, Nat.add_comm, jt_add, h.2.1], fun i h1 h2 e => ?_⟩
  obtain ⟨k, hk⟩ := cyc_back ⟨p, h⟩ j
  have : jt f i m = m := by
    conv => lhs; rw [← hk]
    rw [← jt_add, Nat.add_comm i k, jt_add, e, hk]
  exact h.2.2 i h1 h2 this
def perOf (f : Nat → Nat) (n m : Nat) : Nat := ((List.range n).find? (fun i => jt f (i + 1) m == m)).getD 0 + 1
theorem perOf_eq {f : Nat → Nat} {n m p : Nat} (h : IsPer f m p) (hp : p ≤ n) : perOf f n m = p := by
  unfold perOf
  have : (List.range n).find? (fun i => jt f (i + 1) m == m) = some (p - 1) := by
    rw [List.find?_range_eq_some]
    refine ⟨by rw [Nat.sub_add_cancel h.1]; simp [h.2.1], by simp; have := h.1; omega, fun j hj => ?_⟩
    simp only [Bool.not_eq_true', beq_eq_false_iff_ne]
    exact h.2.2 (j + 1) (by omega) (by omega)
  rw [this]
  have := h.1
  simp; omega
/-- The reference's answer at one state. -/
theorem spec_at {f : Nat → Nat} {n x L : Nat} (hf : ∀ x, x < n → f x < n) (hx : x < n) (h1 : 1 ≤ L) (h2 : ∀ j, 1 ≤ j → j < L → x < jt f j x) (h3 : L ≤ n) (h4 : jt f L x ≤ x ∨ n ≤ L) :
    (jt f L x = x ↔ Cyc f x ∧ Lst f x) ∧ (jt f L x = x → IsPer f x L) := by
  have hp : jt f L x = x → IsPer f x L := fun e => ⟨h1, e, fun j j1 j2 c => by have := h2 j j1 j2; omega⟩
  refine ⟨⟨fun e => ⟨⟨L, hp e⟩, fun j => ?_⟩, ?_⟩, hp⟩
  · rw [jt_mod e j]
    by_cases c : j % L = 0
    · rw [c]; exact Nat.le_refl _
    · exact Nat.le_of_lt (h2 _ (by omega) (Nat.mod_lt _ (by omega)))
  · rintro ⟨⟨p, hp⟩, hl⟩
    have hpn := hp.le hf hx
    rcases Nat.lt_trichotomy L p with c | c | c
    · have a1 := hp.2.2 L h1 c
      have a2 := hl L
      omega
    · subst c; exact hp.2.1
    · have := h2 p hp.1 c
      rw [hp.2.1] at this; omega
/-- What the reference's list is behind the states below s. -/
def SpecL (f : Nat → Nat) (n s : Nat) (out : List Nat) : Prop :=
  ∃ reps : List Nat, reps.Nodup ∧ (∀ m, m ∈ reps ↔ m < s ∧ Cyc f m ∧ Lst f m) ∧ out = reps.map (perOf f n)
theorem SpecL.zero (f : Nat → Nat) (n : Nat) : SpecL f n 0 [] := ⟨[], List.nodup_nil, fun m => by simp, rfl⟩
theorem nodup_snoc {l : List Nat} {a : Nat} (h : l.Nodup) (ha : a ∉ l) : (l ++ [a]).Nodup := by
  rw [List.nodup_append]
  exact ⟨h, by simp, fun x hx y hy => by rw [List.mem_singleton] at hy; subst hy; intro e; subst e; exact ha hx⟩
theorem SpecL.yes {f : Nat → Nat} {n s L : Nat} {out : List Nat} (h : SpecL f n s out) (hL : IsPer f s L) (hn : L ≤ n) (hl : Lst f s) : SpecL f n (s + 1) (out ++ [L]) := by
  obtain ⟨reps, h1, h2, rfl⟩ := h
  refine ⟨reps ++ [s], nodup_snoc h1 (fun c => by have := (h2 s).1 c; omega), fun m => ?_, by rw [List.map_append, List.map_singleton, perOf_eq hL hn]⟩
  rw [List.mem_append, List.mem_singleton, h2]
  constructor
  · rintro (⟨a, b, c⟩ | rfl)
    · exact ⟨by omega, b, c⟩
    · exact ⟨by omega, ⟨L, hL⟩, hl⟩
  · rintro ⟨a, b, c⟩
    by_cases e : m = s
    · exact .inr e
    · exact .inl ⟨by omega, b, c⟩
theorem SpecL.no {f : Nat → Nat} {n s : Nat} {out : List Nat} (h : SpecL f n s out) (hl : ¬ (Cyc f s ∧ Lst f s)) : SpecL f n (s + 1) out := by
  obtain ⟨reps, h1, h2, rfl⟩ := h
  refine ⟨reps, h1, fun m => ?_, rfl⟩
  rw [h2]
  constructor
  · rintro ⟨a, b, c⟩; exact ⟨by omega, b, c⟩
  · rintro ⟨a, b, c⟩
    by_cases e : m = s
    · subst e; exact absurd ⟨b, c⟩ hl
    · exact ⟨by omega, b, c⟩
/-- The program's two numbers. -/
def BP (f : Nat → Nat) (x b p : Nat) : Prop := 1 ≤ p ∧ jt f (b + p) x = jt f b x ∧ ∀ i j, i < j → j < b + p → jt f i x ≠ jt f j x
theorem BP.per {f : Nat → Nat} {x b p : Nat} (h : BP f x b p) : IsPer f (jt f b x) p := by
  refine ⟨h.1, by rw [← jt_add, Nat.add_comm]; exact h.2.1, fun j j1 j2 e => ?_⟩
  rw [← jt_add, Nat.add_comm] at e
  exact h.2.2 b (b + j) (by omega) (by omega) e.symm
theorem BP.le {f : Nat → Nat} {x b p n : Nat} (h : BP f x b p) (hf : ∀ x, x < n → f x < n) (hx : x < n) : b + p ≤ n := by
  apply Nat.le_of_not_lt
  intro hlt
  obtain ⟨i, j, hij, hj, he⟩ := pigeon n (fun i => jt f i x) (fun i _ => jt_lt hf hx i)
  exact h.2.2 i j hij (by omega) he
/-- What the program's list and marks are behind the states below s. -/
structure ImplL (f : Nat → Nat) (n s : Nat) (done : Nat → Bool) (out : List Nat) : Prop where
  cyc : ∀ z, done z = true → z < n ∧ Cyc f z
  shut : ∀ z, done z = true → done (f z) = true
  all : ∀ s', s' < s → ∀ j, Cyc f (jt f j s') → done (jt f j s') = true
  list : ∃ reps : List Nat, reps.Nodup ∧ (∀ m, m ∈ reps ↔ done m = true ∧ Lst f m) ∧ out = reps.map (perOf f n)
theorem ImplL.zero (f : Nat → Nat) (n : Nat) : ImplL f n 0 (fun _ => false) [] := ⟨fun z h => (by cases h), fun z h => (by cases h), fun s hs => by omega, [], List.nodup_nil, fun m => by simp, rfl⟩
theorem ImplL.reach {f : Nat → Nat} {n s : Nat} {done : Nat → Bool} {out : List Nat} (h : ImplL f n s done out) {z : Nat} (hz : done z = true) : ∀ j, done (jt f j z) = true
  | 0 => hz
  | j + 1 => h.shut _ (h.reach hz j)
/-- A state on the way to a cycle that comes again lies on it. -/
theorem on_cycle {f : Nat → Nat} {x b p : Nat} (h : BP f x b p) {j : Nat} (hc : Cyc f (jt f j x)) : ∃ i, i < p ∧ jt f j x = jt f i (jt f b x) := by
  obtain ⟨q, h1, h2, _⟩ := hc
  have hp := h.per
  have e : jt f j x = jt f (b * q + j - b) (jt f b x) := by
    have hbq : b ≤ b * q := Nat.le_mul_of_pos_right b (by omega)
    rw [← jt_add, Nat.sub_add_cancel (by omega), jt_add, jt_mul h2]
  refine ⟨(b * q + j - b) % p, Nat.mod_lt _ (by have := hp.1; omega), ?_⟩
  rw [e, jt_mod hp.2.1]
theorem ImplL.old {f : Nat → Nat} {n s b p : Nat} {done done' : Nat → Bool} {out : List Nat} (h : ImplL f n s done out) (hb : BP f s b p) (hd : done (jt f b s) = true) (hd' : ∀ z, done' z = true ↔ done z = true ∨ ∃ j, j < p ∧ z = jt f j (jt f b s)) : ImplL f n (s + 1) done' out := by
  have e : done' = done := by
    funext z
    have h1 := hd' z
    have h2 : (∃ j, j < p ∧ z = jt f j (jt f b s)) → done z = true := by
      rintro ⟨j, _, rfl⟩
      exact h.reach hd j
    cases c : done z with
    | true => exact h1.2 (.inl c)
    | false =>
      cases c' : done' z with
      | false => rfl
      | true =>
        rcases h1.1 c' with q | q
        · rw [c] at q; cases q
        · have := h2 q; rw [c] at this; cases this
  subst e
  refine ⟨h.cyc, h.shut, fun s' hs j hc => ?_, h.list⟩
  by_cases e : s' = s
  · subst e
    obtain ⟨i, hi, e2⟩ := on_cycle hb hc
    rw [e2]; exact h.reach hd i
  · exact h.all s' (by omega) j hc
theorem least_on {f : Nat → Nat} {y p : Nat} (h : IsPer f y p) : ∃ j, j < p ∧ Lst f (jt f j y) := by
  obtain ⟨v, ⟨j, hj⟩, h2⟩ := least_such (fun v => ∃ j, v = jt f j y) y ⟨0, rfl⟩
  refine ⟨j % p, Nat.mod_lt _ (by have := h.1; omega), fun i => ?_⟩
  rw [← jt_add]
  apply Nat.le_of_not_lt
  intro c
  refine h2 (jt f (i + j % p) y) ?_ ⟨_, rfl⟩
  rw [hj, jt_mod h.2.1 j]
  exact c
theorem ImplL.new {f : Nat → Nat} {n s b p : Nat} {done done' : Nat → Bool} {out : List Nat} (hf : ∀ x, x < n → f x < n) (hs : s < n) (h : ImplL f n s done out) (hb : BP f s b p) (hd : done (jt f b s) = false) (hd' : ∀ z, done' z = true ↔ done z = true ∨ ∃ j, j < p ∧ z = jt f j (jt f b s)) : ImplL f n (s + 1) done' (out ++ [p]) := by
  have hp := hb.per
  have hall : ∀ j, done' (jt f j (jt f b s)) = true := fun j => by
    rw [jt_mod hp.2.1]
    exact (hd' _).2 (.inr ⟨j % p, Nat.mod_lt _ (by have := hp.1; omega), rfl⟩)
  obtain ⟨j0, hj0, hl⟩ := least_on hp
  have hm0 : IsPer f (jt f j0 (jt f b s)) p := Cyc.step hp j0
  have hnot : ∀ j, done (jt f j (jt f b s)) = false := fun j => by
    cases c : done (jt f j (jt f b s)) with
    | false => rfl
    | true =>
      obtain ⟨k, hk⟩ := cyc_back ⟨p, hp⟩ j
      have := h.reach c k
      rw [hk, hd] at this; cases this
  refine ⟨fun z hz => ?_, fun z hz => ?_, fun s' hs' j hc => ?_, ?_⟩
  · rcases (hd' z).1 hz with q | ⟨j, _, rfl⟩
    · exact h.cyc z q
    · exact ⟨jt_lt hf (jt_lt hf hs b) j, p, Cyc.step hp j⟩
  · rcases (hd' z).1 hz with q | ⟨j, _, rfl⟩
    · exact (hd' _).2 (.inl (h.shut z q))
    · exact hall (j + 1)
  · by_cases e : s' = s
    · subst e
      obtain ⟨i, hi, e2⟩ := on_cycle hb hc
      rw [e2]; exact hall i
    · exact (hd' _).2 (.inl (h.all s' (by omega) j hc))
  · obtain ⟨reps, r1, r2, rfl⟩ := h.list
    refine ⟨reps ++ [jt f j0 (jt f b s)], nodup_snoc r1 (fun c => ?_), fun m => ?_, ?_⟩
    · have := ((r2 _).1 c).1
      rw [hnot j0] at this; cases this
    · rw [List.mem_append, List.mem_singleton, r2, hd']
      constructor
      · rintro (⟨q1, q2⟩ | rfl)
        · exact ⟨.inl q1, q2⟩
        · exact ⟨.inr ⟨j0, hj0, rfl⟩, hl⟩
      · rintro ⟨q1 | ⟨j, hj, rfl⟩, q2⟩
        · exact .inl ⟨q1, q2⟩
        · right
          obtain ⟨k1, hk1⟩ := cyc_back ⟨p, hp⟩ j
          obtain ⟨k2, hk2⟩ := cyc_back ⟨p, hp⟩ j0
          have a1 : jt f j (jt f b s) ≤ jt f j0 (jt f b s) := by
            have := q2 (j0 + k1)
            rwa [jt_add, hk1] at this
          have a2 : jt f j0 (jt f b s) ≤ jt f j (jt f b s) := by
            have := hl (j + k2)
            rwa [jt_add, hk2] at this
          omega
    · rw [List.map_append, List.map_singleton, perOf_eq hm0 (by have := hb.le hf hs; omega)]
/-- Both lists have the same elements. -/
theorem both_perm {f : Nat → Nat} {n : Nat} {done : Nat → Bool} {out out' : List Nat} (h : ImplL f n n done out) (h' : SpecL f n n out') : out.Perm out' := by
  obtain ⟨reps, r1, r2, rfl⟩ := h.list
  obtain ⟨reps', s1, s2, rfl⟩ := h'
  refine List.Perm.map _ ((List.perm_ext_iff_of_nodup r1 s1).2 fun m => ?_)
  rw [r2, s2]
  constructor
  · rintro ⟨a, b⟩
    exact ⟨(h.cyc m a).1, (h.cyc m a).2, b⟩
  · rintro ⟨a, b, c⟩
    exact ⟨h.all m a 0 b, c⟩
theorem SpecL.bd {f : Nat → Nat} {n s : Nat} {out : List Nat} (hf : ∀ x, x < n → f x < n) (hs : s ≤ n) (h : SpecL f n s out) : ∀ v ∈ out, 1 ≤ v ∧ v ≤ n := by
  obtain ⟨reps, r1, r2, rfl⟩ := h
  intro v hv
  obtain ⟨m, hm, rfl⟩ := List.mem_map.1 hv
  obtain ⟨a, ⟨p, hp⟩, _⟩ := (r2 m).1 hm
  have := hp.le hf (show m < n by omega)
  rw [perOf_eq hp this]
  exact ⟨hp.1, this⟩
theorem nodup_len {l : List Nat} {s : Nat} (h : l.Nodup) (hb : ∀ m ∈ l, m < s) : l.length ≤ s := by
  apply Nat.le_of_not_lt
  intro hlt
  have hm : ∀ i, i ≤ s → l.getD i 0 < s := fun i hi => by
    refine hb _ ?_
    rw [List.getD_eq_getElem?_getD, List.getElem?_eq_getElem (by omega)]
    exact List.getElem_mem _
  obtain ⟨i, j, hij, hj, he⟩ := pigeon s (fun i => l.getD i 0) hm
  have h1 := List.pairwise_iff_getElem.1 h i j (by omega) (by omega) hij
  simp only [List.getD_eq_getElem?_getD] at he
  rw [List.getElem?_eq_getElem (by omega), List.getElem?_eq_getElem (by omega)] at he
  exact h1 (by simpa using he)
theorem SpecL.len {f : Nat → Nat} {n s : Nat} {out : List Nat} (h : SpecL f n s out) : out.length ≤ s := by
  obtain ⟨reps, r1, r2, rfl⟩ := h
  rw [List.length_map]
  exact nodup_len r1 fun m hm => ((r2 m).1 hm).1
/-- The reference's sorting: the elements of size k + 1 among the first i, behind all of the sizes up to k. -/
def srtI (out : List Nat) (k i : Nat) : List Nat := (out.take i).filter (fun v => v == k + 1)
def srt (out : List Nat) : Nat → List Nat
  | 0 => []
  | k + 1 => srt out k ++ srtI out k out.length
theorem srtI_yes {out : List Nat} {k i : Nat} (hi : i < out.length) (h : out.getD i 0 = k + 1) : srtI out k (i + 1) = srtI out k i ++ [k + 1] := by
  unfold srtI
  rw [List.take_succ_eq_append_getElem hi, List.filter_append]
  have : out[i] = k + 1 := by simpa [List.getD, hi] using h
  rw [this]
  simp
theorem srtI_no {out : List Nat} {k i : Nat} (hi : i < out.length) (h : out.getD i 0 ≠ k + 1) : srtI out k (i + 1) = srtI out k i := by
  unfold srtI
  rw [List.take_succ_eq_append_getElem hi, List.filter_append]
  have : ¬ out[i] = k + 1 := by simpa [List.getD, hi] using h
  simp [this]
theorem srt_perm (out : List Nat) : ∀ k, (srt out k).Perm (out.filter (fun v => decide (1 ≤ v) && decide (v ≤ k)))
  | 0 => by
    have : out.filter (fun v => decide (1 ≤ v) && decide (v ≤ 0)) = [] := by
      rw [List.filter_eq_nil_iff]; intro v _; simp; omega
    rw [this]; exact List.Perm.refl _
  | k + 1 => by
    have ih := srt_perm out k
    rw [List.perm_iff_count] at ih ⊢
    intro v
    unfold srt srtI
    rw [List.count_append, ih v, List.take_length]
    have c0 : ∀ p : Nat → Bool, List.count v (out.filter p) = if p v = true then List.count v out else 0 := fun p => by
      split
      · rename_i hp; rw [List.count_filter hp]
      · rename_i hp; exact List.count_eq_zero.2 (fun c => hp (List.mem_filter.1 c).2)
    rw [c0, c0, c0]
    simp only [Bool.and_eq_true, decide_eq_true_eq, beq_iff_eq]
    by_cases h1 : 1 ≤ v ∧ v ≤ k
    · rw [if_pos h1, if_neg (by omega), if_pos (by omega)]; omega
    · rw [if_neg h1]
      by_cases h2 : v = k + 1
      · rw [if_pos h2, if_pos (by omega)]; omega
      · rw [if_neg h2, if_neg (by omega)]
theorem srt_sorted (out : List Nat) : ∀ k, (srt out k).Pairwise (· ≤ ·) ∧ ∀ v ∈ srt out k, v ≤ k
  | 0 => ⟨List.Pairwise.nil, fun v hv => by cases hv⟩
  | k + 1 => by
    obtain ⟨h1, h2⟩ := srt_sorted out k
    unfold srt srtI
    refine ⟨List.pairwise_append.2 ⟨h1, ?_, fun a ha b hb => ?_⟩, fun v hv => ?_⟩
    · rw [List.take_length]
      refine List.Pairwise.imp_of_mem (R := fun _ _ => True) ?_ (List.pairwise_of_forall (by simp))
      intro a b ha hb _
      have e1 := (List.mem_filter.1 ha).2
      have e2 := (List.mem_filter.1 hb).2
      simp at e1 e2; omega
    · have := h2 a ha
      have e2 := (List.mem_filter.1 hb).2
      simp at e2; omega
    · rcases List.mem_append.1 hv with q | q
      · have := h2 v q; omega
      · have e2 := (List.mem_filter.1 q).2
        simp at e2; omega
theorem srt_all {out : List Nat} {n : Nat} (h : ∀ v ∈ out, 1 ≤ v ∧ v ≤ n) : (srt out n).Perm out := by
  have := srt_perm out n
  rwa [List.filter_eq_self.2 (fun v hv => by simpa using h v hv)] at this
/-- A sorted list with the same elements. -/
theorem sorted_same {a b : List Nat} (h : a.Perm b) (ha : a.Pairwise (· ≤ ·)) (hb : b.Pairwise (· ≤ ·)) : a = b :=
  List.Perm.eq_of_pairwise (le := (· ≤ ·)) (fun x y _ _ h1 h2 => Nat.le_antisymm h1 h2) ha hb h
end Go.Proofs.YtdnikkmioighkaaDoor

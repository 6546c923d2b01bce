/-
  Plain laws of fractions' texts: where the stroke stands, and what the parts are. No condition; no Go program here.
-/
import Derived.Test.YthkmhpkoanmbkaaDoorF1
import Derived.Test.YthkmhpkoanmbkaaDoorRe
import Derived.Lib.IndexMore
import Derived.Lib.IndexBytes
namespace Go.Proofs.YthkmhpkoanmbkaaDoor
open Go.RowKit
set_option linter.unusedVariables false

/-- A text is that of the valid fraction n / d. -/
def FrT (s : ByteArray) (n d : Int) : Prop := vfB n d = true ∧ s = ftS n d
theorem itoa_no (n : Int) : (47 : UInt8) ∉ Lib.itoa n := by
  have hd : ∀ m, (47 : UInt8) ∉ Lib.decDigits m := fun m h => by
    have := dd_dig m 47 h
    unfold IsDig at this
    simp at this
  unfold Lib.itoa
  split
  · intro h
    rcases List.mem_cons.1 h with h | h
    · exact absurd h (by decide)
    · exact hd _ h
  · exact hd _
theorem FrT.whole {s : ByteArray} {n : Int} (h : FrT s n 1) : s = decS n := by rw [h.2, ftS_one rfl]
theorem FrT.list {s : ByteArray} {n d : Int} (h : FrT s n d) (hd : d ≠ 1) : s.data.toList = Lib.itoa n ++ 47 :: Lib.itoa d := by
  rw [h.2, ftS_two hd]
  simp [decS]
theorem span_eq : ∀ (a b a' b' : List UInt8), (47 : UInt8) ∉ a → (47 : UInt8) ∉ a' → a ++ 47 :: b = a' ++ 47 :: b' → a = a' ∧ b = b'
  | [], b, [], b', _, _, h => by simpa using h
  | [], b, x :: a', b', _, h2, h => by
    simp only [List.nil_append, List.cons_append, List.cons.injEq] at h
    exact absurd (by rw [← h.1]; exact List.mem_cons_self) h2
  | x :: a, b, [], b', h1, _, h => by
    simp only [List.nil_append, List.cons_append, List.cons.injEq] at h
    exact absurd (by rw [h.1]; exact List.mem_cons_self) h1
  | x :: a, b, y :: a', b', h1, h2, h => by
    simp only [List.cons_append, List.cons.injEq] at h
    have := span_eq a b a' b' (fun h' => h1 (List.mem_cons_of_mem _ h')) (fun h' => h2 (List.mem_cons_of_mem _ h')) h.2
    exact ⟨by rw [h.1, this.1], this.2⟩
/-- A text cut in two: A, and, if there is a stroke (dv), B behind it. -/
def CutIs (s A B : ByteArray) (dv : Bool) : Prop :=
  (dv = false ∧ A = s ∧ (47 : UInt8) ∉ s.data.toList) ∨ (dv = true ∧ (47 : UInt8) ∉ A.data.toList ∧ s.data.toList = A.data.toList ++ 47 :: B.data.toList)
theorem data_inj {a b : ByteArray} (h : a.data.toList = b.data.toList) : a = b := by
  have h2 : a.data = b.data := Array.toList_inj.1 h
  cases a; cases b; simp_all
theorem CutIs.fr {s A B : ByteArray} {dv : Bool} (h : CutIs s A B dv) {n d : Int} (hf : FrT s n d) : A = decS n ∧ (dv = true → B = decS d ∧ d ≠ 1) ∧ (dv = false → d = 1) := by
  by_cases hd : d = 1
  · subst hd
    have hs := hf.whole
    have hno : (47 : UInt8) ∉ s.data.toList := by rw [hs, decS_list]; exact itoa_no n
    rcases h with ⟨h1, h2, h3⟩ | ⟨h1, h2, h3⟩
    · exact ⟨by rw [h2, hs], ⟨fun h => (by rw [h1] at h; cases h), fun _ => rfl⟩⟩
    · exact absurd (by rw [h3]; exact List.mem_append_right _ List.mem_cons_self) hno
  · have hl := hf.list hd
    rcases h with ⟨h1, h2, h3⟩ | ⟨h1, h2, h3⟩
    · exact absurd (by rw [hl]; exact List.mem_append_right _ List.mem_cons_self) h3
    · obtain ⟨e1, e2⟩ := span_eq _ _ _ _ h2 (itoa_no n) (h3.symm.trans hl)
      exact ⟨data_inj (by rw [e1, decS_list]), ⟨fun _ => ⟨data_inj (by rw [e2, decS_list]), hd⟩, fun h => (by rw [h1] at h; cases h)⟩⟩
theorem CutIs.join {s A B : ByteArray} (h : CutIs s A B true) {n d : Int} (hA : A = decS n) (hB : B = decS d) : s = decS n ++ ⟨#[47]⟩ ++ decS d := by
  rcases h with ⟨h1, _, _⟩ | ⟨_, _, h3⟩
  · cases h1
  · apply data_inj
    rw [h3, hA, hB]
    simp
theorem cut_exists (s : ByteArray) : ∃ A B dv, CutIs s A B dv := by
  by_cases h : (47 : UInt8) ∈ s.data.toList
  · obtain ⟨a, b, hab, hno⟩ : ∃ a b, s.data.toList = a ++ 47 :: b ∧ (47 : UInt8) ∉ a := by
      obtain ⟨a, b, e⟩ := List.append_of_mem h
      have : ∀ l : List UInt8, (47 : UInt8) ∈ l → ∃ a b, l = a ++ 47 :: b ∧ (47 : UInt8) ∉ a := by
        intro l
        induction l with
        | nil => intro h; cases h
        | cons x l ih =>
          intro h
          by_cases hx : x = 47
          · exact ⟨[], l, by rw [hx]; rfl, by simp⟩
          · rcases List.mem_cons.1 h with h' | h'
            · exact absurd h'.symm hx
            · obtain ⟨a, b, e, hn⟩ := ih h'
              exact ⟨x :: a, b, by rw [e]; rfl, fun hm => by
                rcases List.mem_cons.1 hm with h2 | h2
                · exact hx h2.symm
                · exact hn h2⟩
      exact this _ h
    exact ⟨⟨a.toArray⟩, ⟨b.toArray⟩, true, .inr ⟨rfl, by simpa using hno, by simpa using hab⟩⟩
  · exact ⟨s, ⟨#[]⟩, false, .inl ⟨rfl, rfl, h⟩⟩
theorem fr_unique {s : ByteArray} {n d n' d' : Int} (h : FrT s n d) (h' : FrT s n' d') : n = n' ∧ d = d' := by
  obtain ⟨A, B, dv, hc⟩ := cut_exists s
  have b := vfB_true h.1
  have b' := vfB_true h'.1
  obtain ⟨a1, a2, a3⟩ := hc.fr h
  obtain ⟨c1, c2, c3⟩ := hc.fr h'
  refine ⟨decS_inj (by omega) (by omega) (by omega) (by omega) (a1.symm.trans c1), ?_⟩
  cases dv with
  | false => rw [a3 rfl, c3 rfl]
  | true => exact decS_inj (by omega) (by omega) (by omega) (by omega) ((a2 rfl).1.symm.trans (c2 rfl).1)
open Classical in
noncomputable def rfB (s : ByteArray) : Bool := decide (∃ p : Int × Int, FrT s p.1 p.2)
open Classical in
noncomputable def rfP (s : ByteArray) : Int × Int := if h : ∃ p : Int × Int, FrT s p.1 p.2 then h.choose else (0, 0)
theorem fr_some {s : ByteArray} {n d : Int} (h : FrT s n d) : rfB s = true ∧ (rfP s).1 = n ∧ (rfP s).2 = d := by
  have he : ∃ p : Int × Int, FrT s p.1 p.2 := ⟨(n, d), h⟩
  refine ⟨by simp [rfB, he], ?_⟩
  rw [rfP, dif_pos he]
  exact fr_unique he.choose_spec h
theorem fr_none {s : ByteArray} (h : ∀ n d, ¬ FrT s n d) : rfB s = false ∧ (rfP s).1 = 0 ∧ (rfP s).2 = 0 := by
  have he : ¬ ∃ p : Int × Int, FrT s p.1 p.2 := fun ⟨p, hp⟩ => h _ _ hp
  exact ⟨by simp [rfB, he], by rw [rfP, dif_neg he], by rw [rfP, dif_neg he]⟩
theorem gcdI_one (a : Int) (ha : 0 ≤ a) : gcdI a 1 = 1 := by
  have h := gcdI_le (b := 1) ha (by omega)
  omega
theorem vfB_one {n : Int} (h0 : -1000000000000000000 ≤ n) (h1 : n ≤ 1000000000000000000) : vfB n 1 = true := by
  simp [vfB, inR_mk, h0, h1, gcdI_one _ (absI_nonneg n)]
/-- Cut by the library's function. -/
theorem index_47 : ∀ (l : List UInt8), ((47 : UInt8) ∉ l → Lib.index l [47] = -1) ∧ (∀ a b : List UInt8, l = a ++ 47 :: b → (47 : UInt8) ∉ a → Lib.index l [47] = (a.length : Nat))
  | [] => ⟨fun _ => by simp [Lib.index], fun a b h => by simp at h⟩
  | x :: l => by
    have ih := index_47 l
    have hp : ([47] : List UInt8).isPrefixOf (x :: l) = (x == 47) := by
      simp only [List.isPrefixOf, Bool.and_true]
      by_cases h : x = 47
      · subst h; rfl
      · have h' : ¬ (47 : UInt8) = x := fun e => h e.symm
        rw [beq_eq_false_iff_ne.2 h', beq_eq_false_iff_ne.2 h]
    constructor
    · intro hn
      have hx : ¬ x = 47 := fun e => hn (by rw [e]; exact List.mem_cons_self)
      have hl := ih.1 (fun h => hn (List.mem_cons_of_mem _ h))
      rw [Lib.index, hp]
      simp [hx, hl]
    · intro a b h hn
      cases a with
      | nil =>
        simp only [List.nil_append, List.cons.injEq] at h
        rw [Lib.index, hp]
        simp [h.1]
      | cons y a =>
        simp only [List.cons_append, List.cons.injEq] at h
        have hx : ¬ x = 47 := fun e => hn (by rw [← h.1, e]; exact List.mem_cons_self)
        have hl := ih.2 a b h.2 (fun h' => hn (List.mem_cons_of_mem _ h'))
        rw [Lib.index, hp]
        simp [hx, hl]
theorem cut_47 (s : ByteArray) : CutIs s ⟨(Lib.cut s.data.toList [47]).1.toArray⟩ ⟨(Lib.cut s.data.toList [47]).2.1.toArray⟩ (Lib.cut s.data.toList [47]).2.2 := by
  obtain ⟨A, B, dv, h⟩ := cut_exists s
  rcases h with ⟨h1, h2, h3⟩ | ⟨h1, h2, h3⟩
  · have hi := (index_47 s.data.toList).1 h3
    unfold Lib.cut
    rw [hi, if_neg (by omega)]
    exact .inl ⟨rfl, data_inj (by simp), h3⟩
  · have hi := (index_47 s.data.toList).2 _ _ h3 h2
    unfold Lib.cut
    rw [hi, if_pos (by omega)]
    refine .inr ⟨rfl, ?_, ?_⟩
    · simp only [Int.toNat_natCast]
      rw [h3, List.take_left']
      · exact h2
      · rfl
    · simp only [Int.toNat_natCast]
      have e1 : (A.data.toList ++ 47 :: B.data.toList).take A.data.toList.length = A.data.toList := List.take_left' rfl
      have e2 : (A.data.toList ++ 47 :: B.data.toList).drop (A.data.toList.length + ([47] : List UInt8).length) = B.data.toList := by
        rw [show A.data.toList ++ 47 :: B.data.toList = (A.data.toList ++ [47]) ++ B.data.toList by simp]
        exact List.drop_left' (by simp)
      rw [h3, e1, e2]
/-- Cut at a place that is known. -/
theorem cut_none {s : ByteArray} (h : ∀ j (hj : j < s.size), s[j].toNat ≠ 47) : CutIs s s ⟨#[]⟩ false := by
  refine .inl ⟨rfl, rfl, fun hm => ?_⟩
  obtain ⟨j, hj, e⟩ := List.getElem_of_mem hm
  have hs : j < s.size := by simpa using hj
  have h2 := at_data s j hs
  rw [List.getElem?_eq_getElem hj, e] at h2
  injection h2 with h2
  exact h j hs (by rw [← h2]; rfl)
theorem cut_at {s A B : ByteArray} {k : Nat} (hk : k < s.size) (h : ∀ j (hj : j < s.size), j < k → s[j].toNat ≠ 47) (h47 : s[k].toNat = 47) (hA : A.data.toList = s.data.toList.take k) (hB : B.data.toList = s.data.toList.drop (k + 1)) : CutIs s A B true := by
  refine .inr ⟨rfl, fun hm => ?_, ?_⟩
  · rw [hA] at hm
    obtain ⟨j, hj, e⟩ := List.getElem_of_mem hm
    have hjk : j < k := by have := hj; rw [List.length_take] at this; omega
    have hs : j < s.size := by omega
    have h2 := at_data s j hs
    rw [List.getElem_take] at e
    rw [List.getElem?_eq_getElem (by simp; exact hs), e] at h2
    injection h2 with h2
    exact h j hs hjk (by rw [← h2]; rfl)
  · rw [hA, hB]
    have h2 := at_data s k hk
    have h3 : s[k] = 47 := UInt8.toNat_inj.1 h47
    rw [h3] at h2
    have hl : k < s.data.toList.length := by simp; exact hk
    rw [List.getElem?_eq_getElem hl] at h2
    injection h2 with h2
    rw [← h2, ← List.drop_eq_getElem_cons hl, List.take_append_drop]
end Go.Proofs.YthkmhpkoanmbkaaDoor

/-
  The text of a list: the program's and the reference's give the same. Condition: for the program's the table of the powers of ten lies as its initialiser lays it.
-/
import Derived.Test.YtcmmcffglmcegaaDoorSt
import Derived.Test.YtcmmcffglmcegaaDoorDd
import Derived.Test.YtcmmcffglmcegaaDoorLst
import Derived.Test.YtcmmcffglmcegaaDoorC15
import Derived.Test.YtcmmcffglmcegaaDoorM10
import Derived.Lib.Join
namespace Go.Proofs.YtcmmcffglmcegaaDoor
open Go.RowKit
set_option linter.unusedVariables false

theorem tStr : SliceS Tryd.prog 62 9 := ⟨Tryd.underlying62, info_parts (by kernel_rfl)⟩
/-- The text of the first k numbers. -/
def jt (xs : List Int) : Nat → List UInt8
  | 0 => []
  | k + 1 => jt xs k ++ ((if k = 0 then [] else [44]) ++ Lib.itoa (xs.getD k 0))
theorem itoa_len {n : Int} (h0 : -9223372036854775808 ≤ n) (h1 : n ≤ 9223372036854775807) : 1 ≤ (Lib.itoa n).length ∧ (Lib.itoa n).length ≤ 21 := by
  refine ⟨?_, Lib.itoa_length_le n h0 h1⟩
  unfold Lib.itoa
  split
  · simp
  · rw [Lib.decDigits_length]; exact Lib.nDigits_pos _
theorem jt_len {xs : List Int} (h : ∀ k, k < xs.length → -9223372036854775808 ≤ xs.getD k 0 ∧ xs.getD k 0 ≤ 9223372036854775807) : ∀ k, k ≤ xs.length → (jt xs k).length ≤ 22 * k ∧ (0 < k → 0 < (jt xs k).length)
  | 0, _ => by simp [jt]
  | k + 1, hk => by
    have h1 := jt_len h k (by omega)
    have h2 := h k (by omega)
    have h3 := itoa_len h2.1 h2.2
    simp only [jt, List.length_append]
    obtain ⟨L, hL⟩ : ∃ L, (Lib.itoa (xs.getD k 0)).length = L := ⟨_, rfl⟩
    rw [hL] at h3 ⊢
    split
    · simp only [List.length_nil]; omega
    · simp only [List.length_singleton]; omega
theorem join_snoc (l : List (List UInt8)) (x sep : List UInt8) (h : l ≠ []) : Lib.join (l ++ [x]) sep = Lib.join l sep ++ (sep ++ x) := by
  cases l with
  | nil => exact absurd rfl h
  | cons y r =>
    rw [List.cons_append, Lib.join_cons, Lib.join_cons]
    simp [Lib.joinTail]
theorem jt_join (xs : List Int) : ∀ k, k ≤ xs.length → Lib.join ((xs.take k).map Lib.itoa) [44] = jt xs k
  | 0, _ => by simp [jt, Lib.join_nil]
  | k + 1, hk => by
    have h1 := jt_join xs k (by omega)
    have e : xs.take (k + 1) = xs.take k ++ [xs.getD k 0] := by
      rw [List.take_add_one, List.getElem?_eq_getElem (by omega)]
      simp [List.getD, show k < xs.length by omega]
    rw [e, List.map_append, jt]
    by_cases h0 : k = 0
    · subst h0
      simp [jt, Lib.join_one]
    · rw [if_neg h0, ← h1]
      exact join_snoc _ _ _ (fun e => by
        have := congrArg List.length e
        rw [List.length_map, List.length_take, List.length_nil] at this
        omega)
/-- A list's text. -/
def ltS (xs : List Int) : ByteArray := if xs = [] then ⟨#[110, 111, 110, 101]⟩ else ⟨(jt xs xs.length).toArray⟩
/-- A list with few numbers that are not too great. -/
def liB (xs : List Int) : Bool := decide (xs.length ≤ 64) && allB xs (-1000000000000000) 1000000000000000
theorem liB_true {xs : List Int} (h : liB xs = true) : xs.length ≤ 64 ∧ allB xs (-1000000000000000) 1000000000000000 = true := by simpa [liB] using h

theorem l01List_any (xs : List Int) (a : Option Addr) (c base : Nat) (w : World) (h : HasL base w a c xs) (hx : xs.length < 1000000000000) :
    Calls Tryd.prog 38 #[.slice a xs.length c] w fun e w' => e = .returned (.bool (liB xs)) ∧ w = w' := by
  rcases Nat.eq_zero_or_pos xs.length with h0 | h0
  · have hx0 : xs = [] := List.eq_nil_of_length_eq_zero h0
    subst hx0
    have e : liB [] = true := rfl
    rw [e]; clear e
    go_enter Tryd.func38, Tryd.ntmps38
    go_wp2
    go_loop [3] (fun i => i = .int .i64 0) (fun _ => 0)
    case atStart => rfl
    case round =>
      subst hrel
      go_wp2
      go_ret
      exact ⟨rfl, rfl⟩
  · obtain ⟨g, rfl, _, _, hc, _⟩ := h.cells h0
    have HC := Lib.hid hc
    clear hc h
    obtain ⟨n, HN⟩ : ∃ n, Hid (xs.length = n) := ⟨_, Lib.hid rfl⟩
    obtain ⟨b1, HB⟩ : ∃ b, Hid (liB xs = b) := ⟨_, Lib.hid rfl⟩
    rw [HN.out] at h0 hx ⊢
    rw [HB.out]
    go_enter Tryd.func38, Tryd.ntmps38
    go_wp2
    go_loop [3] (fun i => ∃ k : Nat, k ≤ n ∧ i = .int .i64 k ∧ Hid (∀ j, j < k → inR (xs.getD j 0) (-1000000000000000) 1000000000000000 = true)) (fun i => n - (intOf i).toNat)
    case atStart => exact ⟨0, Nat.zero_le _, rfl, Lib.hid (fun j hj => by omega)⟩
    case round =>
      obtain ⟨k, hk, rfl, hall⟩ := hrel
      by_cases hlt : k < n
      · have q1 := HC.out k (by rw [HN.out]; exact hlt)
        obtain ⟨x, HX⟩ : ∃ x, Hid (xs.getD k 0 = x) := ⟨_, Lib.hid rfl⟩
        rw [HX.out] at q1
        have r1 : (k : Int) < (n : Int) := by omega
        cases hr : inR x (-1000000000000000) 1000000000000000 with
        | false =>
          have e1 : b1 = false := by
            rw [← HB.out, liB, allB_bad (k := k) (by rw [HN.out]; exact hlt) (by rw [HX.out]; exact hr)]
            simp
          subst e1
          go_wp2_with (go_at_call 64; refine (l00In_of hr _).mono ?_; rintro e w' ⟨rfl, rfl⟩)
          go_ret
          exact ⟨rfl, rfl⟩
        | true =>
          have HA : Hid (∀ j, j < k + 1 → inR (xs.getD j 0) (-1000000000000000) 1000000000000000 = true) := Lib.hid fun j hj => by
            by_cases e : j = k
            · subst e; rw [HX.out]; exact hr
            · exact hall.out j (by omega)
          go_wp2_with (go_at_call 64; refine (l00In_of hr _).mono ?_; rintro e w' ⟨rfl, rfl⟩)
          go_round
          case rel => exact ⟨k + 1, by omega, by go_num, HA⟩
          case measure => simp [intOf]; omega
      · have hke : k = n := by omega
        subst hke
        have e1 : b1 = decide ((k : Int) ≤ 64) := by
          rw [← HB.out, liB, allB_good (fun j hj => hall.out j (by rw [← HN.out]; exact hj)), HN.out]
          simp; omega
        subst e1
        by_cases h64 : (k : Int) ≤ 64
        · go_wp2
          go_ret
          exact ⟨ret_bool (by simp <;> omega), rfl⟩
        · go_wp2
          go_ret
          exact ⟨ret_bool (by simp <;> omega), rfl⟩
theorem isList_any (xs : List Int) (a : Option Addr) (c base : Nat) (w : World) (h : HasL base w a c xs) (hx : xs.length < 1000000000000) :
    Calls Tryd.prog 40 #[.slice a xs.length c] w fun e w' => e = .returned (.bool (liB xs)) ∧ Below w.heap.size w w' := by
  have H := Lib.hid h
  clear h
  by_cases hl : (xs.length : Int) ≤ 64
  · have e : liB xs = allB xs (-1000000000000000) 1000000000000000 := by
      have : xs.length ≤ 64 := by omega
      simp [liB, this]
    rw [e]; clear e
    obtain ⟨b, hb⟩ : ∃ b, allB xs (-1000000000000000) 1000000000000000 = b := ⟨_, rfl⟩
    rw [hb]
    go_enter Tryd.func40, Tryd.ntmps40
    go_wp2_with (go_at_call 68; refine (allIn_of hb H.out hx).mono ?_; rintro e w1 ⟨rfl, hb1⟩)
    go_ret
    exact ⟨ret_bool (by simp), hb1⟩
  · have e : liB xs = false := by
      have : ¬ xs.length ≤ 64 := by omega
      simp [liB, this]
    rw [e]; clear e
    go_enter Tryd.func40, Tryd.ntmps40
    go_wp2
    go_ret
    exact ⟨rfl, bw_refl _⟩
theorem app_size (A B : ByteArray) : (A ++ B).size = A.size + B.size := ByteArray.size_append
theorem jt_app (l r : List UInt8) : (⟨l.toArray⟩ ++ ⟨r.toArray⟩ : ByteArray) = ⟨(l ++ r).toArray⟩ := by
  apply ByteArray.ext
  simp
set_option maxRecDepth 100000 in
theorem l01Text_any (xs : List Int) (a : Option Addr) (c base : Nat) (w : World) (h : HasL base w a c xs) (h64 : xs.length ≤ 64) (hb : allB xs (-1000000000000000) 1000000000000000 = true) :
    Calls Tryd.prog 39 #[.slice a xs.length c] w fun e w' => e = .returned (.string (ltS xs)) ∧ Below w.heap.size w w' := by
  rcases Nat.eq_zero_or_pos xs.length with h0 | h0
  · have hx0 : xs = [] := List.eq_nil_of_length_eq_zero h0
    subst hx0
    have e : ltS [] = ⟨#[110, 111, 110, 101]⟩ := rfl
    rw [e]; clear e
    go_enter Tryd.func39, Tryd.ntmps39
    go_wp2
    go_loopw [3, 4] (fun v i wr => i = .int .i64 0 ∧ v = .string ⟨#[]⟩ ∧ wr = w) (fun _ _ _ => 0)
    case atStart => exact ⟨rfl, rfl, rfl⟩
    case round =>
      obtain ⟨rfl, rfl, rfl⟩ := hrel
      go_wp2
      go_ret
      exact ⟨rfl, bw_refl _⟩
  · have H := Lib.hid h
    have HB := Lib.hid hb
    obtain ⟨g, rfl, _, hg, hc, _⟩ := h.cells h0
    have HC := Lib.hid hc
    clear hc h hb
    have hbd : ∀ k, k < xs.length → -9223372036854775808 ≤ xs.getD k 0 ∧ xs.getD k 0 ≤ 9223372036854775807 := fun k hk => by
      have := allB_get HB.out hk; omega
    have HJ := Lib.hid (jt_len hbd)
    have e : ltS xs = ⟨(jt xs xs.length).toArray⟩ := by
      unfold ltS
      rw [if_neg (by intro e; subst e; simp at h0)]
    rw [e]; clear e
    obtain ⟨n, HN⟩ : ∃ n, Hid (xs.length = n) := ⟨_, Lib.hid rfl⟩
    rw [HN.out] at h0 h64 ⊢
    clear hbd
    go_enter Tryd.func39, Tryd.ntmps39
    go_wp2
    go_loopw [3, 4] (fun v i wr => ∃ (k : Nat) (t : ByteArray), k ≤ n ∧ i = .int .i64 k ∧ v = .string t ∧ Hid (t = ⟨(jt xs k).toArray⟩) ∧ Hid (Below w.heap.size w wr)) (fun _ i _ => n - (intOf i).toNat)
    case atStart => exact ⟨0, ⟨#[]⟩, Nat.zero_le _, rfl, rfl, Lib.hid rfl, Lib.hid (bw_refl _)⟩
    case round =>
      obtain ⟨k, t, hk, rfl, rfl, ht, hbw⟩ := hrel
      have hjl := HJ.out k (by rw [HN.out]; exact hk)
      have hts : t.size = (jt xs k).length := by
        rw [ht.out]
        show (jt xs k).toArray.size = _
        simp
      have HTS := Lib.hid hts
      have hts' : t.size ≤ 1408 := by omega
      by_cases hlt : k < n
      · have q1 := (hbw.out.cell (p := ⟨g, k, none⟩) hg).trans (HC.out k (by rw [HN.out]; exact hlt))
        have hx := allB_get HB.out (k := k) (by rw [HN.out]; exact hlt)
        obtain ⟨x, HX⟩ : ∃ x, Hid (xs.getD k 0 = x) := ⟨_, Lib.hid rfl⟩
        rw [HX.out] at q1 hx
        have r1 : (k : Int) < (n : Int) := by omega
        have hD := l01Dec_any x wr (by omega) (by omega)
        have sD := decS_size x (by omega) (by omega)
        obtain ⟨D, HD⟩ : ∃ D, Hid (decS x = D) := ⟨_, Lib.hid rfl⟩
        rw [HD.out] at hD sD
        have s0 : ¬ 9223372036854775807 < t.size + 1 := by omega
        have s1 : ¬ 9223372036854775807 < t.size + 1 + D.size := by omega
        have s2 : ¬ 9223372036854775807 < t.size + D.size := by omega
        clear hjl hts
        by_cases hk0 : k = 0
        · subst hk0
          have HT : Hid (t ++ D = ⟨(jt xs (0 + 1)).toArray⟩) := Lib.hid (by rw [ht.out, ← HD.out, ← HX.out, decS, jt_app]; simp [jt])
          go_wp2_with (go_at_call 67; refine hD.mono ?_; rintro e w2 ⟨rfl, hb2⟩)
          go_roundw
          case rel => exact ⟨0 + 1, _, by omega, by go_num, rfl, HT, Lib.hid (hbw.out.trans (hb2.mono hbw.out.size))⟩
          case measure => simp [intOf]; omega
        · have hk1 : (0 : Int) < (k : Int) := by omega
          have HT : Hid (t ++ ⟨#[44]⟩ ++ D = ⟨(jt xs (k + 1)).toArray⟩) := Lib.hid (by
            rw [ht.out, ← HD.out, decS, show (⟨#[44]⟩ : ByteArray) = ⟨([44] : List UInt8).toArray⟩ from rfl, jt_app, jt_app, jt, if_neg hk0, ← HX.out]
            simp)
          go_wp2_with (go_at_call 67; refine hD.mono ?_; rintro e w2 ⟨rfl, hb2⟩)
          go_roundw
          case rel => exact ⟨k + 1, _, by omega, by go_num, rfl, HT, Lib.hid (hbw.out.trans (hb2.mono hbw.out.size))⟩
          case measure => simp [intOf]; omega
      · have hke : k = n := by omega
        subst hke
        have hem : t.toList.isEmpty = false := by
          rw [Lib.toList_data]
          cases hh : t.data.toList with
          | nil =>
            have h1 := Lib.size_eq t
            rw [hh, List.length_nil] at h1
            omega
          | cons _ _ => rfl
        clear hjl hts
        go_wp2
        go_ret
        exact ⟨by rw [← ht.out]; rfl, hbw.out⟩
set_option maxRecDepth 100000 in
theorem listText_any (xs : List Int) (a : Option Addr) (c base : Nat) (w : World) (h : HasL base w a c xs) (h64 : xs.length ≤ 64) (hb : allB xs (-1000000000000000) 1000000000000000 = true) (htab : Tab10 w) :
    Calls Tryd.prog 41 #[.slice a xs.length c] w fun e w' => e = .returned (.string (ltS xs)) ∧ Below w.heap.size w w' := by
  rcases Nat.eq_zero_or_pos xs.length with h0 | h0
  · have hx0 : xs = [] := List.eq_nil_of_length_eq_zero h0
    subst hx0
    have e : ltS [] = ⟨#[110, 111, 110, 101]⟩ := rfl
    rw [e]; clear e
    go_enter Tryd.func41, Tryd.ntmps41
    go_wp2
    go_loopw [3, 9] (fun v i wr => i = .int .i64 0 ∧ v = .slice (some ⟨w.heap.size, 0, none⟩) 0 0 ∧ Below w.heap.size w wr) (fun _ _ _ => 0)
    case atStart => exact ⟨rfl, rfl, bw_alloc (bw_refl _) _⟩
    case round =>
      obtain ⟨rfl, rfl, hbw⟩ := hrel
      go_wp2
      go_ret
      exact ⟨rfl, hbw⟩
  · have H := Lib.hid h
    have HB := Lib.hid hb
    obtain ⟨g, rfl, _, hg, hc, _⟩ := h.cells h0
    have HC := Lib.hid hc
    clear hc h hb
    have hbd : ∀ k, k < xs.length → -9223372036854775808 ≤ xs.getD k 0 ∧ xs.getD k 0 ≤ 9223372036854775807 := fun k hk => by
      have := allB_get HB.out hk; omega
    have HJ := Lib.hid (jt_len hbd)
    have e : ltS xs = ⟨(jt xs xs.length).toArray⟩ := by
      unfold ltS
      rw [if_neg (by intro e; subst e; simp at h0)]
    rw [e]; clear e
    obtain ⟨n, HN⟩ : ∃ n, Hid (xs.length = n) := ⟨_, Lib.hid rfl⟩
    rw [HN.out] at h0 h64 ⊢
    clear hbd
    go_enter Tryd.func41, Tryd.ntmps41
    go_wp2
    go_loopw [3, 9] (fun v i wr => ∃ (k : Nat) (ss : List ByteArray), k ≤ n ∧ i = .int .i64 k ∧ Hid (ss = (xs.take k).map decS) ∧ Hid (OwnS w.heap.size 9 w wr v ss)) (fun _ i _ => n - (intOf i).toNat)
    case atStart => exact ⟨0, [], Nat.zero_le _, rfl, Lib.hid rfl, Lib.hid (OwnS.made (bw_refl _) (Nat.le_refl _))⟩
    case round =>
      obtain ⟨k, ss, hk, rfl, hss, ho⟩ := hrel
      by_cases hlt : k < n
      · have q1 := (ho.out.below.cell (p := ⟨g, k, none⟩) hg).trans (HC.out k (by rw [HN.out]; exact hlt))
        have hx := allB_get HB.out (k := k) (by rw [HN.out]; exact hlt)
        obtain ⟨x, HX⟩ : ∃ x, Hid (xs.getD k 0 = x) := ⟨_, Lib.hid rfl⟩
        rw [HX.out] at q1 hx
        have r1 : (k : Int) < (n : Int) := by omega
        have hD := Decimal_any x wr (by omega) (by omega) (htab.later (Below.mono ho.out.below (Nat.le_refl _)))
        obtain ⟨D, HD⟩ : ∃ D, Hid (decS x = D) := ⟨_, Lib.hid rfl⟩
        rw [HD.out] at hD
        have HL : Hid (ss.length < 1000000000000) := Lib.hid (by rw [hss.out]; simp; omega)
        have HS : Hid (ss ++ [D] = (xs.take (k + 1)).map decS) := Lib.hid (by
          rw [List.take_add_one, List.getElem?_eq_getElem (by rw [HN.out]; exact hlt), hss.out, ← HD.out, ← HX.out, List.map_append]
          congr 1
          simp [List.getD, show k < xs.length by rw [HN.out]; exact hlt])
        go_wp2_with fail
        refine hD.mono ?_
        rintro e w2 ⟨rfl, hb2⟩
        have HO := Lib.hid (ho.out.later hb2)
        go_wp2_with (at_builtin; refine wpAppS tStr rfl _ _ rfl rfl HO.out rfl HL.out ?_; intro v' w3 hown3)
        go_roundw
        case rel => exact ⟨k + 1, _, by omega, by go_num, HS, Lib.hid hown3⟩
        case measure => simp [intOf]; omega
      · have hke : k = n := by omega
        subst hke
        have hsl : ss.length = k := by rw [hss.out]; simp [HN.out]
        obtain ⟨g2, cap, hv, _, hlt2, hcap, _, hcl, _⟩ := ho.out.cell
        have hjoin : Lib.join (ss.map (·.data.toList)) [44] = jt xs k := by
          rw [hss.out, List.map_map]
          have := jt_join xs k (by rw [HN.out]; omega)
          rw [← this]
          congr 1
        have hjl := HJ.out k (by rw [HN.out]; omega)
        have hJ := Tryd.strings_Join g2 0 cap ss ⟨#[44]⟩ wr (fun j s hj => by rw [Nat.zero_add]; exact hcl j s hj) hlt2 (by omega) hcap (by
          show (Lib.join (ss.map (·.data.toList)) [44]).length ≤ _
          rw [hjoin]; omega)
        rw [hsl] at hJ hv
        have hJ' : Calls Tryd.prog 69 #[.slice (some ⟨g2, 0, none⟩) k cap, .string ⟨#[44]⟩] wr fun e w' => e = .returned (.string ⟨(jt xs k).toArray⟩) ∧ Below wr.heap.size wr w' :=
          hJ.mono fun e w' ⟨h1, h2⟩ => ⟨by rw [h1]; show Ending.returned (.string ⟨(Lib.join (ss.map (·.data.toList)) [44]).toArray⟩) = _; rw [hjoin], h2⟩
        have HW := Lib.hid ho.out.below
        subst hv
        obtain ⟨J, hJe⟩ : ∃ J, (⟨(jt xs k).toArray⟩ : ByteArray) = J := ⟨_, rfl⟩
        rw [hJe] at hJ'
        have HJe := Lib.hid hJe
        clear hJe
        clear hJ hcl hjoin hjl hss ho hsl
        have hk0 : ((k : Int) == 0) = false := beq_eq_false_iff_ne.2 (by omega)
        go_wp2_with (go_at_call 69; refine hJ'.mono ?_; rintro e w3 ⟨rfl, hb3⟩)
        go_ret
        exact ⟨by rw [HJe.out]; rfl, bw_call HW.out hb3⟩
end Go.Proofs.YtcmmcffglmcegaaDoor

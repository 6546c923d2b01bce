/-
  Reading a number's text: the reference's l01Great, l01Value and ReadDecimal. Condition: the text is not longer than the laws let it be.
-/
import Derived.Test.YtcmmcffglmcegaaDoorM12
import Derived.Test.YtcmmcffglmcegaaDoorM10
import Derived.Test.YtcmmcffglmcegaaDoorC1
import Derived.Lib.IndexBytes
namespace Go.Proofs.YtcmmcffglmcegaaDoor
open Go.RowKit
set_option linter.unusedVariables false

/-- What is read of a text: all of it, or all but the sign. -/
def RestOf (s R : ByteArray) (neg : Bool) : Prop := ∀ M n, NumT M s n → R.data.toList = Lib.decDigits n.natAbs ∧ (n < 0 ↔ neg = true)
theorem rest_plain {s : ByteArray} (h : ∀ h0 : 0 < s.size, s[0].toNat ≠ 45) : RestOf s s false := fun M n ⟨_, _, hn⟩ => by
  have hl : s.data.toList = Lib.itoa n := by rw [hn, decS_list]
  have hnn : ¬ n < 0 := fun hneg => by
    have e : s.data.toList = 45 :: Lib.decDigits n.natAbs := by rw [hl, Lib.itoa, if_pos hneg]
    have hs : 0 < s.size := by
      have := congrArg List.length e
      simp at this; omega
    have h0 := at_data s 0 hs
    rw [e] at h0
    simp only [List.getElem?_cons_zero, Option.some.injEq] at h0
    exact h hs (by rw [← h0]; rfl)
  refine ⟨?_, by simp [hnn]⟩
  rw [hl, Lib.itoa, if_neg hnn]
  congr 1
  omega
theorem rest_sign {s R : ByteArray} (h0 : 0 < s.size) (h : s[0].toNat = 45) (hR : R.data.toList = s.data.toList.drop 1) : RestOf s R true := fun M n ⟨_, _, hn⟩ => by
  have hl : s.data.toList = Lib.itoa n := by rw [hn, decS_list]
  have hneg : n < 0 := by
    by_cases hh : n < 0
    · exact hh
    · exfalso
      obtain ⟨c, r, hc, hd⟩ := dd_cons n.toNat
      have e : s.data.toList = c :: r := by rw [hl, Lib.itoa, if_neg hh, hc]
      have h1 := at_data s 0 h0
      rw [e] at h1
      simp only [List.getElem?_cons_zero, Option.some.injEq] at h1
      unfold IsDig at hd
      rw [h1] at hd
      omega
  refine ⟨?_, by simp [hneg]⟩
  rw [hR, hl, Lib.itoa, if_pos hneg]
  rfl

theorem toList_inj {a b : ByteArray} (h : a.toList = b.toList) : a = b := by
  rw [Lib.toList_data, Lib.toList_data] at h
  have h2 : a.data = b.data := Array.toList_inj.1 h
  cases a; cases b; simp_all
/-- What l01Great hands back: a number that counts where the text is one. -/
def GreatR (b1 : Bool) (v1 : Int) (w : World) (e : Ending) (w' : World) : Prop :=
  ∃ v b, e = .returned (.tuple #[.int .i64 v, .bool b]) ∧ (b = b1 ∧ (b = true → v = v1)) ∧ Below w.heap.size w w'
set_option maxRecDepth 100000 in
set_option maxHeartbeats 1000000 in
theorem l01Great_any (s : ByteArray) (w : World) (hs : s.size ≤ 1048576) :
    Calls Tryd.prog 70 #[.string s] w fun e w' => GreatR (rdB 1000000000000000000 s) (rdV 1000000000000000000 s) w e w' := by
  by_cases hneg : ∃ h0 : 0 < s.size, s[0].toNat = 45
  · obtain ⟨h0, h45⟩ := hneg
    obtain ⟨R, hR⟩ : ∃ R, s.extract 1 s.size = R := ⟨_, rfl⟩
    have hRl : R.data.toList = s.data.toList.drop 1 := by rw [← hR]; exact Lib.extract_to_end s 1
    have HRest : Hid (RestOf s R true) := Lib.hid (rest_sign h0 h45 hRl)
    have hRs : (R.size : Int) < s.size := by
      have := congrArg List.length hRl
      simp at this; omega
    have p0 : (0 : Int) < s.size := by omega
    have p1 : (s[0].toNat : Int) = 45 := by omega
    have p2 : ((s[0].toNat : Int) == 45) = true := by simp [p1]
    clear h45 hRl
    have hno : R.data.toList.length = R.size := by simp
    by_cases hA : (R.size : Int) < 1
    · obtain ⟨e1, e2⟩ := rd_none (M := 1000000000000000000) (s := s) fun n hn => by
        have h := (HRest.out _ n hn).1
        have := dd_pos n.natAbs
        rw [← h] at this; omega
      rw [e1, e2]
      go_enter Tryd.func70, Tryd.ntmps70
      go_wp2
      go_ret2
      exact ⟨0, false, rfl, ⟨rfl, fun h => rfl⟩, bw_refl _⟩
    · by_cases hB : (19 : Int) < R.size
      · obtain ⟨e1, e2⟩ := rd_none (M := 1000000000000000000) (s := s) fun n hn => by
          have h := (HRest.out _ n hn).1
          have := dd_len 18 n.natAbs (by have := hn.1; have := hn.2.1; omega)
          rw [← h] at this; omega
        rw [e1, e2]
        go_enter Tryd.func70, Tryd.ntmps70
        go_wp2
        go_ret2
        exact ⟨0, false, rfl, ⟨rfl, fun h => rfl⟩, bw_refl _⟩
      · obtain ⟨b1, hb1⟩ : ∃ b, rdB 1000000000000000000 s = b := ⟨_, rfl⟩
        obtain ⟨v1, hv1⟩ : ∃ v, rdV 1000000000000000000 s = v := ⟨_, rfl⟩
        rw [hb1, hv1]
        have HB := Lib.hid hb1
        have HV := Lib.hid hv1
        clear hb1 hv1 hno
        go_enter Tryd.func70, Tryd.ntmps70
        go_wp2
        go_loopw [5, 6] (fun v i wr => ∃ (k : Nat) (z : Int), k ≤ R.size ∧ i = .int .i64 k ∧ v = .int .i64 z ∧ 0 ≤ z ∧ z ≤ 1000000000000000009 ∧ Hid (z = (valL (R.data.toList.take k) : Nat)) ∧ wr = w) (fun _ i _ => R.size - (intOf i).toNat)
        case atStart => exact ⟨0, 0, Nat.zero_le _, rfl, rfl, by omega, by omega, Lib.hid (by simp [valL]), rfl⟩
        case round =>
          obtain ⟨k, z, hk, rfl, rfl, z0, z1, hz, rfl⟩ := hrel
          by_cases hlt : k < R.size
          · have hat := at_data R k hlt
            have HAT := Lib.hid hat
            have hlen : R.data.toList.length = R.size := by simp
            have HLEN := Lib.hid hlen
            clear hat hlen
            by_cases hd0 : (R[k].toNat : Int) < 48
            · obtain ⟨e1, e2⟩ := rd_none (M := 1000000000000000000) (s := s) fun n hn => by
                have h := (HRest.out _ n hn).1
                have hm := dd_dig n.natAbs R[k] (by rw [← h]; exact List.mem_of_getElem? HAT.out)
                unfold IsDig at hm; omega
              rw [HB.out] at e1
              subst e1
              clear e2
              go_wp2
              go_ret2
              exact ⟨0, false, rfl, ⟨rfl, fun h => by cases h⟩, bw_refl _⟩
            · by_cases hd1 : (57 : Int) < R[k].toNat
              · obtain ⟨e1, e2⟩ := rd_none (M := 1000000000000000000) (s := s) fun n hn => by
                  have h := (HRest.out _ n hn).1
                  have hm := dd_dig n.natAbs R[k] (by rw [← h]; exact List.mem_of_getElem? HAT.out)
                  unfold IsDig at hm; omega
                rw [HB.out] at e1
                subst e1
                clear e2
                go_wp2
                go_ret2
                exact ⟨0, false, rfl, ⟨rfl, fun h => by cases h⟩, bw_refl _⟩
              · by_cases hbig : 100000000000000000 < z
                · obtain ⟨e1, e2⟩ := rd_none (M := 1000000000000000000) (s := s) fun n hn => by
                    have h := (HRest.out _ n hn).1
                    have hp := dd_pre n.natAbs k (by rw [← h, HLEN.out]; exact hlt)
                    rw [← h] at hp
                    have := hz.out
                    have := hn.1
                    have := hn.2.1
                    omega
                  rw [HB.out] at e1
                  subst e1
                  clear e2
                  go_wp2
                  go_ret2
                  exact ⟨0, false, rfl, ⟨rfl, fun h => by cases h⟩, bw_refl _⟩
                · have HZ : Hid (10 * z + ((R[k].toNat : Int) - 48) = (valL (R.data.toList.take (k + 1)) : Nat)) := Lib.hid (by
                    rw [List.take_add_one, HAT.out]
                    show _ = ((valL (R.data.toList.take k ++ [R[k]]) : Nat) : Int)
                    rw [valL_snoc, hz.out]
                    omega)
                  have u1 : IntKind.u8.wrap ((R[k].toNat : Int) - 48) = (R[k].toNat : Int) - 48 := IntWalk.u8_in _ (by omega)
                  go_wp2
                  go_roundw
                  case rel => exact ⟨k + 1, _, by omega, by go_num, rfl, by omega, by omega, HZ, trivial⟩
                  case measure => simp [intOf]; omega
          · have hke : k = R.size := by omega
            subst hke
            have hz' : z = (valL R.data.toList : Nat) := by
              have := hz.out
              rwa [List.take_of_length_le (by simp)] at this
            have HZ := Lib.hid hz'
            clear hz hz'
            obtain ⟨v, hv⟩ : ∃ v : Int, v = -z := ⟨_, rfl⟩
            have HN : Hid (∀ n, NumT 1000000000000000000 s n → n = v) := Lib.hid fun n hn => by
              obtain ⟨h1, h2⟩ := HRest.out _ n hn
              have h3 := HZ.out
              rw [h1, dd_val] at h3
              have h4 := h2.2 rfl; omega
            have hv0 : -1000000000000000009 ≤ v ∧ v ≤ 1000000000000000009 := by omega
            have hvz : -z = v := hv.symm
            clear hv
            have hdec : ∀ wq, Calls Tryd.prog 67 #[.int .i64 v] wq fun e w' => e = .returned (.string (decS v)) ∧ Below wq.heap.size wq w' := fun wq => l01Dec_any v wq (by omega) (by omega)
            cases hr : inR v (-1000000000000000000) 1000000000000000000 with
            | false =>
              have hr' := inR_false hr
              obtain ⟨e1, e2⟩ := rd_none (M := 1000000000000000000) (s := s) fun n hn => by
                have := HN.out n hn
                have := hn.1
                have := hn.2.1
                omega
              rw [HB.out] at e1
              subst e1
              clear e2 hr'
              go_wp2_with (go_at_call 64; refine (l00In_of hr _).mono ?_; rintro e w' ⟨rfl, rfl⟩)
              go_ret2
              exact ⟨_, false, rfl, ⟨rfl, fun h => by cases h⟩, bw_refl _⟩
            | true =>
              have hr' := inR_true hr
              by_cases heq : s = decS v
              · obtain ⟨e1, e2⟩ := rd_some (M := 1000000000000000000) (by omega) (⟨hr'.1, hr'.2, heq⟩ : NumT 1000000000000000000 s v)
                rw [HB.out] at e1
                rw [HV.out] at e2
                subst e1
                subst e2
                have hs2 : ∀ wq, Calls Tryd.prog 67 #[.int .i64 v1] wq fun e w' => e = .returned (.string s) ∧ Below wq.heap.size wq w' := fun wq => by
                  have := hdec wq
                  rwa [← heq] at this
                clear heq hdec
                go_wp2_with (first | (go_at_call 64; refine (l00In_of hr _).mono ?_; rintro e w' ⟨rfl, rfl⟩) | (go_at_call 67; refine (hs2 _).mono ?_; rintro e w2 ⟨rfl, hb2⟩))
                go_ret2
                exact ⟨_, true, rfl, ⟨rfl, fun _ => rfl⟩, hb2⟩
              · obtain ⟨e1, e2⟩ := rd_none (M := 1000000000000000000) (s := s) fun n hn => by
                  have := HN.out n hn
                  subst this
                  exact heq hn.2.2
                rw [HB.out] at e1
                subst e1
                clear e2
                generalize decS v = D at hdec heq
                have hne : (D.toList == s.toList) = false := beq_eq_false_iff_ne.2 fun h => heq (toList_inj h).symm
                go_wp2_with (first | (go_at_call 64; refine (l00In_of hr _).mono ?_; rintro e w' ⟨rfl, rfl⟩) | (go_at_call 67; refine (hdec _).mono ?_; rintro e w2 ⟨rfl, hb2⟩))
                go_ret2
                exact ⟨_, false, rfl, ⟨rfl, fun h => by cases h⟩, hb2⟩
  · have p1 : ∀ h0 : 0 < s.size, s[0].toNat ≠ 45 := fun h0 h => hneg ⟨h0, h⟩
    have HRest : Hid (RestOf s s false) := Lib.hid (rest_plain p1)
    by_cases h0 : 0 < s.size
    · have p2 := p1 h0
      have p3 : ((s[0].toNat : Int) == 45) = false := beq_eq_false_iff_ne.2 (by omega)
      have p0 : (0 : Int) < s.size := by omega
      clear hneg p1 p2
      have hno : s.data.toList.length = s.size := by simp
      by_cases hA : (s.size : Int) < 1
      · obtain ⟨e1, e2⟩ := rd_none (M := 1000000000000000000) (s := s) fun n hn => by
          have h := (HRest.out _ n hn).1
          have := dd_pos n.natAbs
          rw [← h] at this; omega
        rw [e1, e2]
        go_enter Tryd.func70, Tryd.ntmps70
        go_wp2
        go_ret2
        exact ⟨0, false, rfl, ⟨rfl, fun h => rfl⟩, bw_refl _⟩
      · by_cases hB : (19 : Int) < s.size
        · obtain ⟨e1, e2⟩ := rd_none (M := 1000000000000000000) (s := s) fun n hn => by
            have h := (HRest.out _ n hn).1
            have := dd_len 18 n.natAbs (by have := hn.1; have := hn.2.1; omega)
            rw [← h] at this; omega
          rw [e1, e2]
          go_enter Tryd.func70, Tryd.ntmps70
          go_wp2
          go_ret2
          exact ⟨0, false, rfl, ⟨rfl, fun h => rfl⟩, bw_refl _⟩
        · obtain ⟨b1, hb1⟩ : ∃ b, rdB 1000000000000000000 s = b := ⟨_, rfl⟩
          obtain ⟨v1, hv1⟩ : ∃ v, rdV 1000000000000000000 s = v := ⟨_, rfl⟩
          rw [hb1, hv1]
          have HB := Lib.hid hb1
          have HV := Lib.hid hv1
          clear hb1 hv1 hno
          go_enter Tryd.func70, Tryd.ntmps70
          go_wp2
          go_loopw [5, 6] (fun v i wr => ∃ (k : Nat) (z : Int), k ≤ s.size ∧ i = .int .i64 k ∧ v = .int .i64 z ∧ 0 ≤ z ∧ z ≤ 1000000000000000009 ∧ Hid (z = (valL (s.data.toList.take k) : Nat)) ∧ wr = w) (fun _ i _ => s.size - (intOf i).toNat)
          case atStart => exact ⟨0, 0, Nat.zero_le _, rfl, rfl, by omega, by omega, Lib.hid (by simp [valL]), rfl⟩
          case round =>
            obtain ⟨k, z, hk, rfl, rfl, z0, z1, hz, rfl⟩ := hrel
            by_cases hlt : k < s.size
            · have hat := at_data s k hlt
              have HAT := Lib.hid hat
              have hlen : s.data.toList.length = s.size := by simp
              have HLEN := Lib.hid hlen
              clear hat hlen
              by_cases hd0 : (s[k].toNat : Int) < 48
              · obtain ⟨e1, e2⟩ := rd_none (M := 1000000000000000000) (s := s) fun n hn => by
                  have h := (HRest.out _ n hn).1
                  have hm := dd_dig n.natAbs s[k] (by rw [← h]; exact List.mem_of_getElem? HAT.out)
                  unfold IsDig at hm; omega
                rw [HB.out] at e1
                subst e1
                clear e2
                go_wp2
                go_ret2
                exact ⟨0, false, rfl, ⟨rfl, fun h => by cases h⟩, bw_refl _⟩
              · by_cases hd1 : (57 : Int) < s[k].toNat
                · obtain ⟨e1, e2⟩ := rd_none (M := 1000000000000000000) (s := s) fun n hn => by
                    have h := (HRest.out _ n hn).1
                    have hm := dd_dig n.natAbs s[k] (by rw [← h]; exact List.mem_of_getElem? HAT.out)
                    unfold IsDig at hm; omega
                  rw [HB.out] at e1
                  subst e1
                  clear e2
                  go_wp2
                  go_ret2
                  exact ⟨0, false, rfl, ⟨rfl, fun h => by cases h⟩, bw_refl _⟩
                · by_cases hbig : 100000000000000000 < z
                  · obtain ⟨e1, e2⟩ := rd_none (M := 1000000000000000000) (s := s) fun n hn => by
                      have h := (HRest.out _ n hn).1
                      have hp := dd_pre n.natAbs k (by rw [← h, HLEN.out]; exact hlt)
                      rw [← h] at hp
                      have := hz.out
                      have := hn.1
                      have := hn.2.1
                      omega
                    rw [HB.out] at e1
                    subst e1
                    clear e2
                    go_wp2
                    go_ret2
                    exact ⟨0, false, rfl, ⟨rfl, fun h => by cases h⟩, bw_refl _⟩
                  · have HZ : Hid (10 * z + ((s[k].toNat : Int) - 48) = (valL (s.data.toList.take (k + 1)) : Nat)) := Lib.hid (by
                      rw [List.take_add_one, HAT.out]
                      show _ = ((valL (s.data.toList.take k ++ [s[k]]) : Nat) : Int)
                      rw [valL_snoc, hz.out]
                      omega)
                    have u1 : IntKind.u8.wrap ((s[k].toNat : Int) - 48) = (s[k].toNat : Int) - 48 := IntWalk.u8_in _ (by omega)
                    go_wp2
                    go_roundw
                    case rel => exact ⟨k + 1, _, by omega, by go_num, rfl, by omega, by omega, HZ, trivial⟩
                    case measure => simp [intOf]; omega
            · have hke : k = s.size := by omega
              subst hke
              have hz' : z = (valL s.data.toList : Nat) := by
                have := hz.out
                rwa [List.take_of_length_le (by simp)] at this
              have HZ := Lib.hid hz'
              clear hz hz'
              obtain ⟨v, hv⟩ : ∃ v : Int, v = z := ⟨_, rfl⟩
              have HN : Hid (∀ n, NumT 1000000000000000000 s n → n = v) := Lib.hid fun n hn => by
                obtain ⟨h1, h2⟩ := HRest.out _ n hn
                have h3 := HZ.out
                rw [h1, dd_val] at h3
                have h4 : ¬ n < 0 := fun h => by have := h2.1 h; cases this
                omega
              have hv0 : -1000000000000000009 ≤ v ∧ v ≤ 1000000000000000009 := by omega
              subst hv
              have hdec : ∀ wq, Calls Tryd.prog 67 #[.int .i64 v] wq fun e w' => e = .returned (.string (decS v)) ∧ Below wq.heap.size wq w' := fun wq => l01Dec_any v wq (by omega) (by omega)
              cases hr : inR v (-1000000000000000000) 1000000000000000000 with
              | false =>
                have hr' := inR_false hr
                obtain ⟨e1, e2⟩ := rd_none (M := 1000000000000000000) (s := s) fun n hn => by
                  have := HN.out n hn
                  have := hn.1
                  have := hn.2.1
                  omega
                rw [HB.out] at e1
                subst e1
                clear e2 hr'
                go_wp2_with (go_at_call 64; refine (l00In_of hr _).mono ?_; rintro e w' ⟨rfl, rfl⟩)
                go_ret2
                exact ⟨_, false, rfl, ⟨rfl, fun h => by cases h⟩, bw_refl _⟩
              | true =>
                have hr' := inR_true hr
                by_cases heq : s = decS v
                · obtain ⟨e1, e2⟩ := rd_some (M := 1000000000000000000) (by omega) (⟨hr'.1, hr'.2, heq⟩ : NumT 1000000000000000000 s v)
                  rw [HB.out] at e1
                  rw [HV.out] at e2
                  subst e1
                  subst e2
                  have hs2 : ∀ wq, Calls Tryd.prog 67 #[.int .i64 v1] wq fun e w' => e = .returned (.string s) ∧ Below wq.heap.size wq w' := fun wq => by
                    have := hdec wq
                    rwa [← heq] at this
                  clear heq hdec
                  go_wp2_with (first | (go_at_call 64; refine (l00In_of hr _).mono ?_; rintro e w' ⟨rfl, rfl⟩) | (go_at_call 67; refine (hs2 _).mono ?_; rintro e w2 ⟨rfl, hb2⟩))
                  go_ret2
                  exact ⟨_, true, rfl, ⟨rfl, fun _ => rfl⟩, hb2⟩
                · obtain ⟨e1, e2⟩ := rd_none (M := 1000000000000000000) (s := s) fun n hn => by
                    have := HN.out n hn
                    subst this
                    exact heq hn.2.2
                  rw [HB.out] at e1
                  subst e1
                  clear e2
                  generalize decS v = D at hdec heq
                  have hne : (D.toList == s.toList) = false := beq_eq_false_iff_ne.2 fun h => heq (toList_inj h).symm
                  go_wp2_with (first | (go_at_call 64; refine (l00In_of hr _).mono ?_; rintro e w' ⟨rfl, rfl⟩) | (go_at_call 67; refine (hdec _).mono ?_; rintro e w2 ⟨rfl, hb2⟩))
                  go_ret2
                  exact ⟨_, false, rfl, ⟨rfl, fun h => by cases h⟩, hb2⟩
    · have h0' : ¬ (0 : Int) < s.size := by omega
      obtain ⟨e1, e2⟩ := rd_none (M := 1000000000000000000) (s := s) fun n hn => by
        have h := (HRest.out _ n hn).1
        have := dd_pos n.natAbs
        rw [← h] at this
        simp at this; omega
      rw [e1, e2]
      clear p1 hneg
      go_enter Tryd.func70, Tryd.ntmps70
      go_wp2
      go_ret2
      exact ⟨0, false, rfl, ⟨rfl, fun h => rfl⟩, bw_refl _⟩
end Go.Proofs.YtcmmcffglmcegaaDoor

/-
  Reading a decimal number: both sides give the number with the text, if it is small enough. Condition for the program's: the table of the powers of ten and the two sentinels of the library lie as their initialisers lay them.
-/
import Derived.Test.YtcmmcffglmcegaaDoorRd
import Derived.Test.YtcmmcffglmcegaaDoorDd
import Derived.Lib.AtoiErrMem
namespace Go.Proofs.YtcmmcffglmcegaaDoor
open Go.RowKit
set_option linter.unusedVariables false

theorem var_later {P : Program} {w w' : World} {name : String} {cs : Array Value} (h : w.var? P name = some cs) (hb : Below w.heap.size w w') : w'.var? P name = some cs := by
  unfold World.var? at *
  cases hg : P.globalNamed name with
  | none => simp [hg] at h
  | some g =>
    simp only [hg, Option.bind_some] at h ⊢
    have hlt : g < w.heap.size := by
      rcases Nat.lt_or_ge g w.heap.size with h' | h'
      · exact h'
      · rw [Array.getElem?_eq_none h'] at h; simp at h
    rw [hb.block g hlt]
    exact h
/-- The library's two sentinels of strconv hold an error each. -/
def Errs (w : World) : Prop := (∃ tp p, w.var? Tryd.prog "strconv.ErrSyntax" = some #[.iface tp p]) ∧ ∃ tp p, w.var? Tryd.prog "strconv.ErrRange" = some #[.iface tp p]
theorem Errs.later {w w' : World} (h : Errs w) (hb : Below w.heap.size w w') : Errs w' := by
  obtain ⟨⟨tp, p, h1⟩, tq, q, h2⟩ := h
  exact ⟨⟨tp, p, var_later h1 hb⟩, tq, q, var_later h2 hb⟩

theorem numT_le {M M' n : Int} {s : ByteArray} (h : NumT M s n) (hM : M ≤ M') : NumT M' s n := ⟨by have := h.1; omega, by have := h.2.1; omega, h.2.2⟩
theorem rd_cases (M : Int) (hM : M ≤ 9223372036854775807) (s : ByteArray) : (rdB M s = true ∧ NumT M s (rdV M s)) ∨ (rdB M s = false ∧ rdV M s = 0 ∧ ∀ n, ¬ NumT M s n) := by
  by_cases h : ∃ n, NumT M s n
  · obtain ⟨n, hn⟩ := h
    obtain ⟨e1, e2⟩ := rd_some hM hn
    exact .inl ⟨e1, by rw [e2]; exact hn⟩
  · have h' : ∀ n, ¬ NumT M s n := fun n hn => h ⟨n, hn⟩
    obtain ⟨e1, e2⟩ := rd_none h'
    exact .inr ⟨e1, e2, h'⟩
/-- A smaller bound. -/
theorem rd_less (s : ByteArray) : (∃ n, rdB 1000000000000000000 s = true ∧ rdV 1000000000000000000 s = n ∧ inR n (-1000000000000000) 1000000000000000 = true ∧ rdB 1000000000000000 s = true ∧ rdV 1000000000000000 s = n) ∨
    (∃ n, rdB 1000000000000000000 s = true ∧ rdV 1000000000000000000 s = n ∧ inR n (-1000000000000000) 1000000000000000 = false ∧ rdB 1000000000000000 s = false ∧ rdV 1000000000000000 s = 0) ∨
    (rdB 1000000000000000000 s = false ∧ rdB 1000000000000000 s = false ∧ rdV 1000000000000000 s = 0) := by
  rcases rd_cases 1000000000000000000 (by omega) s with ⟨h1, h2⟩ | ⟨h1, h2, h3⟩
  · obtain ⟨n, hn⟩ : ∃ n, rdV 1000000000000000000 s = n := ⟨_, rfl⟩
    rw [hn] at h2 ⊢
    cases hr : inR n (-1000000000000000) 1000000000000000 with
    | true =>
      have hr' := inR_true hr
      obtain ⟨e1, e2⟩ := rd_some (M := 1000000000000000) (by omega) ⟨hr'.1, hr'.2, h2.2.2⟩
      exact .inl ⟨n, h1, rfl, hr, e1, e2⟩
    | false =>
      have hr' := inR_false hr
      obtain ⟨e1, e2⟩ := rd_none (M := 1000000000000000) (s := s) fun m hm => by
        obtain ⟨f1, f2⟩ := rd_some (M := 1000000000000000000) (by omega) (numT_le hm (by omega))
        rw [hn] at f2
        subst f2
        have := hm.1
        have := hm.2.1
        omega
      exact .inr (.inl ⟨n, h1, rfl, hr, e1, e2⟩)
  · obtain ⟨e1, e2⟩ := rd_none (M := 1000000000000000) (s := s) fun m hm => h3 m (numT_le hm (by omega))
    exact .inr (.inr ⟨h1, e1, e2⟩)

theorem l01Value_any (s : ByteArray) (w : World) (hs : s.size ≤ 1048576) :
    Calls Tryd.prog 42 #[.string s] w fun e w' => e = .returned (.tuple #[.int .i64 (rdV 1000000000000000 s), .bool (rdB 1000000000000000 s)]) ∧ Below w.heap.size w w' := by
  have hG := fun w => l01Great_any s w hs
  rcases rd_less s with ⟨n, h1, h2, h3, h4, h5⟩ | ⟨n, h1, h2, h3, h4, h5⟩ | ⟨h1, h4, h5⟩
  · rw [h4, h5]
    rw [h1, h2] at hG
    clear h1 h2 h4 h5
    go_enter Tryd.func42, Tryd.ntmps42
    go_wp2_with fail
    refine (hG _).mono ?_
    rintro e w1 ⟨v, b, rfl, ⟨rfl, hv⟩, hb⟩
    obtain rfl := hv rfl
    go_wp2_with (go_at_call 64; refine (l00In_of h3 _).mono ?_; rintro e w' ⟨rfl, rfl⟩)
    go_ret2
    exact ⟨rfl, hb⟩
  · rw [h4, h5]
    rw [h1, h2] at hG
    clear h1 h2 h4 h5
    go_enter Tryd.func42, Tryd.ntmps42
    go_wp2_with fail
    refine (hG _).mono ?_
    rintro e w1 ⟨v, b, rfl, ⟨rfl, hv⟩, hb⟩
    obtain rfl := hv rfl
    go_wp2_with (go_at_call 64; refine (l00In_of h3 _).mono ?_; rintro e w' ⟨rfl, rfl⟩)
    go_ret2
    exact ⟨rfl, hb⟩
  · rw [h4, h5]
    rw [h1] at hG
    clear h1 h4 h5
    go_enter Tryd.func42, Tryd.ntmps42
    go_wp2_with fail
    refine (hG _).mono ?_
    rintro e w1 ⟨v, b, rfl, ⟨rfl, hv⟩, hb⟩
    clear hv
    go_wp2
    go_ret2
    exact ⟨rfl, hb⟩
theorem sReadDecimal_any (s : ByteArray) (w : World) (hs : s.size ≤ 1048576) :
    Calls Tryd.prog 16 #[.string s] w fun e w' => e = .returned (.tuple #[.int .i64 (rdV 1000000000000000 s), .bool (rdB 1000000000000000 s)]) ∧ Below w.heap.size w w' := by
  go_enter Tryd.func16, Tryd.ntmps16
  go_wp2_with (go_at_call 42; refine (l01Value_any s _ hs).mono ?_; rintro e w1 ⟨rfl, hb⟩)
  go_ret2
  exact ⟨rfl, hb⟩
/-- What strconv.ParseInt hands back: a number and no error, or a number that does not count and an error. -/
def ParseR (s : ByteArray) (w : World) (e : Ending) (w' : World) : Prop :=
  Below w.heap.size w w' ∧ ((∃ v, -9223372036854775808 ≤ v ∧ v ≤ 9223372036854775807 ∧ Lib.parseIntB 64 s.data.toList = .ok v ∧ e = .returned (.tuple #[.int .i64 v, .nilIface])) ∨
    ((∀ n, -9223372036854775808 ≤ n → n ≤ 9223372036854775807 → s ≠ decS n) ∧ ∃ v t a, e = .returned (.tuple #[.int .i64 v, .iface t (.pointer (some a))])))
theorem parse_any (s : ByteArray) (w : World) (hs : s.size ≤ 1048576) (he : Errs w) :
    Calls Tryd.prog 43 #[.string s, .int .i64 10, .int .i64 64] w fun e w' => ParseR s w e w' := by
  cases h : Lib.parseIntB 64 s.data.toList
  · rename_i v
    have hb := Lib.parseIntB_bounds h
    refine (Tryd.strconv_ParseInt_10_at64_ok s (by omega) v h w).mono fun e w' ⟨h1, h2⟩ => ⟨?_, .inl ⟨v, by omega, by omega, h, h1⟩⟩
    rcases h2 with rfl | ⟨t, rfl⟩
    · exact bw_refl _
    · exact Lib.bytesWorld_below _ _ _
  · obtain ⟨⟨tp, p, hv⟩, _⟩ := he
    refine (Any.strconv_ParseInt_10_at64_syntax_var Tryd.laysC174 s (by omega) h tp p w hv).mono fun e w' ⟨N, h1, _, _, hb⟩ => ⟨hb, .inr ⟨fun n n0 n1 hn => ?_, _, _, _, h1⟩⟩
    rw [hn, decS_list, parse_itoa n0 n1] at h
    cases h
  · obtain ⟨_, tp, p, hv⟩ := he
    refine (Tryd.strconv_ParseInt_10_at64_range_var s (by omega) h tp p w hv).mono fun e w' ⟨N, h1, _, _, hb⟩ => ⟨hb, .inr ⟨fun n n0 n1 hn => ?_, _, _, _, h1⟩⟩
    rw [hn, decS_list, parse_itoa n0 n1] at h
    cases h
theorem ReadDecimal_any (s : ByteArray) (w : World) (hs : s.size ≤ 1048576) (ht : Tab10 w) (he : Errs w) :
    Calls Tryd.prog 17 #[.string s] w fun e w' => e = .returned (.tuple #[.int .i64 (rdV 1000000000000000 s), .bool (rdB 1000000000000000 s)]) ∧ Below w.heap.size w w' := by
  obtain ⟨b1, hb1⟩ : ∃ b, rdB 1000000000000000 s = b := ⟨_, rfl⟩
  obtain ⟨v1, hv1⟩ : ∃ v, rdV 1000000000000000 s = v := ⟨_, rfl⟩
  rw [hb1, hv1]
  have HB := Lib.hid hb1
  have HV := Lib.hid hv1
  clear hb1 hv1
  go_enter Tryd.func17, Tryd.ntmps17
  go_wp2_with fail
  refine (parse_any s _ hs he).mono ?_
  rintro e w1 ⟨hb1, ⟨v, v0, v2, hp, rfl⟩ | ⟨hno, v, t, a, rfl⟩⟩
  · cases hr : inR v (-1000000000000000) 1000000000000000 with
    | false =>
      have hr' := inR_false hr
      obtain ⟨e1, e2⟩ := rd_none (M := 1000000000000000) (s := s) fun n hn => by
        have h1 := hn.1
        have h2 := hn.2.1
        rw [hn.2.2, decS_list, parse_itoa (by omega) (by omega)] at hp
        injection hp with hp
        omega
      rw [HB.out] at e1
      rw [HV.out] at e2
      subst e1
      subst e2
      clear hp hr'
      go_wp2_with (go_at_call 44; refine (inRange_of hr _).mono ?_; rintro e w' ⟨rfl, rfl⟩)
      go_ret2
      exact ⟨rfl, hb1⟩
    | true =>
      have hr' := inR_true hr
      have hdec := Decimal_any v w1 (by omega) (by omega) (ht.later hb1)
      by_cases heq : s = decS v
      · obtain ⟨e1, e2⟩ := rd_some (M := 1000000000000000) (by omega) ⟨hr'.1, hr'.2, heq⟩
        rw [HB.out] at e1
        rw [HV.out] at e2
        subst e1
        subst e2
        rw [← heq] at hdec
        clear heq hp hr'
        go_wp2_with (first | (go_at_call 44; refine (inRange_of hr _).mono ?_; rintro e w' ⟨rfl, rfl⟩) | (go_at_call 45; refine hdec.mono ?_; rintro e w2 ⟨rfl, hb2⟩))
        go_ret2
        exact ⟨rfl, bw_call hb1 hb2⟩
      · obtain ⟨e1, e2⟩ := rd_none (M := 1000000000000000) (s := s) fun n hn => by
          have h1 := hn.1
          have h2 := hn.2.1
          have h3 := hn.2.2
          rw [h3, decS_list, parse_itoa (by omega) (by omega)] at hp
          injection hp with hp
          subst hp
          exact heq h3
        rw [HB.out] at e1
        rw [HV.out] at e2
        subst e1
        subst e2
        generalize decS v = D at hdec heq
        have hne : (D.toList == s.toList) = false := beq_eq_false_iff_ne.2 fun h => heq (toList_inj h).symm
        have hne' : (D.toList != s.toList) = true := by simp [bne, hne]
        clear hp hr'
        go_wp2_with (first | (go_at_call 44; refine (inRange_of hr _).mono ?_; rintro e w' ⟨rfl, rfl⟩) | (go_at_call 45; refine hdec.mono ?_; rintro e w2 ⟨rfl, hb2⟩))
        go_ret2
        exact ⟨rfl, bw_call hb1 hb2⟩
  · obtain ⟨e1, e2⟩ := rd_none (M := 1000000000000000) (s := s) fun n hn => hno n (by have := hn.1; omega) (by have := hn.2.1; omega) hn.2.2
    rw [HB.out] at e1
    rw [HV.out] at e2
    subst e1
    subst e2
    clear hno
    go_wp2
    go_ret2
    exact ⟨rfl, hb1⟩
end Go.Proofs.YtcmmcffglmcegaaDoor

/-
  Reading a decimal number: both sides give the number with the text, if it is small enough. Condition for the program's: the table of the powers of ten and the two sentinels of the library lie as their initialisers lay them.
-/
import Derived.Test.YthkmhpkoanmbkaaDoorRd
import Derived.Test.YthkmhpkoanmbkaaDoorDd
import Derived.Lib.AtoiErrMem
namespace Go.Proofs.YthkmhpkoanmbkaaDoor
open Go.RowKit
set_option linter.unusedVariables false

theorem var_later {P : Program} {w w' : World} {name : String} {cs : Array Value} (h : w.var? P name = some cs) (hb : Below w.heap.size w w') : w'.var? P name = some cs := by
  unfold World.var? at *
  cases hg : P.globalNamed name with
  | none => simp [hg] at h
  | some g =>
    simp only [hg, Option.bind_some] at h ⊢
    have hlt : g < w.heap.size := by
      rcases Nat.lt_or_ge g w.heap.size with h' | h'
      · exact h'
      · rw [Array.getElem?_eq_none h'] at h; simp at h
    rw [hb.block g hlt]
    exact h
/-- The library's two sentinels of strconv hold an error each. -/
def Errs (w : World) : Prop := (∃ tp p, w.var? Tryd.prog "strconv.ErrSyntax" = some #[.iface tp p]) ∧ ∃ tp p, w.var? Tryd.prog "strconv.ErrRange" = some #[.iface tp p]
theorem Errs.later {w w' : World} (h : Errs w) (hb : Below w.heap.size w w') : Errs w' := by
  obtain ⟨⟨tp, p, h1⟩, tq, q, h2⟩ := h
  exact ⟨⟨tp, p, var_later h1 hb⟩, tq, q, var_later h2 hb⟩

theorem numT_le {M M' n : Int} {s : ByteArray} (h : NumT M s n) (hM : M ≤ M') : NumT M' s n := ⟨by have := h.1; omega, by have := h.2.1; omega, h.2.2⟩
theorem rd_cases (M : Int) (hM : M ≤ 9223372036854775807) (s : ByteArray) : (rdB M s = true ∧ NumT M s (rdV M s)) ∨ (rdB M s = false ∧ rdV M s = 0 ∧ ∀ n, ¬ NumT M s n) := by
  by_cases h : ∃ n, NumT M s n
  · obtain ⟨n, hn⟩ := h
    obtain ⟨e1, e2⟩ := rd_some hM hn
    exact .inl ⟨e1, by rw [e2]; exact hn⟩
  · have h' : ∀ n, ¬ NumT M s n := fun n hn => h ⟨n, hn⟩
    obtain ⟨e1, e2⟩ := rd_none h'
    exact .inr ⟨e1, e2, h'⟩
/-- A smaller bound. -/
theorem rd_less (s : ByteArray) : (∃ n, rdB 1000000000000000000 s = true ∧ rdV 1000000000000000000 s = n ∧ inR n (-1000000000000000) 1000000000000000 = true ∧ rdB 1000000000000000 s = true ∧ rdV 1000000000000000 s = n) ∨
    (∃ n, rdB 1000000000000000000 s = true ∧ rdV 1000000000000000000 s = n ∧ inR n (-1000000000000000) 1000000000000000 = false ∧ rdB 1000000000000000 s = false ∧ rdV 1000000000000000 s = 0) ∨
    (rdB 1000000000000000000 s = false ∧ rdB 1000000000000000 s = false ∧ rdV 1000000000000000 s = 0) := by
  rcases rd_cases 1000000000000000000 (by omega) s with ⟨h1, h2⟩ | ⟨h1, h2, h3⟩
  · obtain ⟨n, hn⟩ : ∃ n, rdV 1000000000000000000 s = n := ⟨_, rfl⟩
    rw [hn] at h2 ⊢
    cases hr : inR n (-1000000000000000) 1000000000000000 with
    | true =>
      have hr' := inR_true hr
      obtain ⟨e1, e2⟩ := rd_some (M := 1000000000000000) (by omega) ⟨hr'.1, hr'.2, h2.2.2⟩
      exact .inl ⟨n, h1, rfl, hr, e1, e2⟩
    | false =>
      have hr' := inR_false hr
      obtain ⟨e1, e2⟩ := rd_none (M := 1000000000000000) (s := s) fun m hm => by
        obtain ⟨f1, f2⟩ := rd_some (M := 1000000000000000000) (by omega) (numT_le hm (by omega))
        rw [hn] at f2
        subst f2
        have := hm.1
        have := hm.2.1
        omega
      exact .inr (.inl ⟨n, h1, rfl, hr, e1, e2⟩)
  · obtain ⟨e1, e2⟩ := rd_none (M := 1000000000000000) (s := s) fun m hm => h3 m (numT_le hm (by omega))
    exact .inr (.inr ⟨h1, e1, e2⟩)

/-- What strconv.ParseInt hands back: a number and no error, or a number that does not count and an error. -/
def ParseR (s : ByteArray) (w : World) (e : Ending) (w' : World) : Prop :=
  Below w.heap.size w w' ∧ ((∃ v, -9223372036854775808 ≤ v ∧ v ≤ 9223372036854775807 ∧ Lib.parseIntB 64 s.data.toList = .ok v ∧ e = .returned (.tuple #[.int .i64 v, .nilIface])) ∨
    ((∀ n, -9223372036854775808 ≤ n → n ≤ 9223372036854775807 → s ≠ decS n) ∧ ∃ v t a, e = .returned (.tuple #[.int .i64 v, .iface t (.pointer (some a))])))
theorem parse_any (s : ByteArray) (w : World) (hs : s.size ≤ 1048576) (he : Errs w) :
    Calls Tryd.prog 29 #[.string s, .int .i64 10, .int .i64 64] w fun e w' => ParseR s w e w' := by
  cases h : Lib.parseIntB 64 s.data.toList
  · rename_i v
    have hb := Lib.parseIntB_bounds h
    refine (Tryd.strconv_ParseInt_10_at64_ok s (by omega) v h w).mono fun e w' ⟨h1, h2⟩ => ⟨?_, .inl ⟨v, by omega, by omega, h, h1⟩⟩
    rcases h2 with rfl | ⟨t, rfl⟩
    · exact bw_refl _
    · exact Lib.bytesWorld_below _ _ _
  · obtain ⟨⟨tp, p, hv⟩, _⟩ := he
    refine (Any.strconv_ParseInt_10_at64_syntax_var Tryd.laysC174 s (by omega) h tp p w hv).mono fun e w' ⟨N, h1, _, _, hb⟩ => ⟨hb, .inr ⟨fun n n0 n1 hn => ?_, _, _, _, h1⟩⟩
    rw [hn, decS_list, parse_itoa n0 n1] at h
    cases h
  · obtain ⟨_, tp, p, hv⟩ := he
    refine (Tryd.strconv_ParseInt_10_at64_range_var s (by omega) h tp p w hv).mono fun e w' ⟨N, h1, _, _, hb⟩ => ⟨hb, .inr ⟨fun n n0 n1 hn => ?_, _, _, _, h1⟩⟩
    rw [hn, decS_list, parse_itoa n0 n1] at h
    cases h
end Go.Proofs.YthkmhpkoanmbkaaDoor

/-
  Contracts of allIn (through slices.ContainsFunc and its closure), isOutputs and l03Outputs. Conditions: the list is one of the law's own, with at most 2^20 elements.
-/
import Derived.Test.YtkepnjdomlfpdaaLst
namespace Go.Proofs.Ytkepnjdomlfpdaa
open Go.RowKit
set_option linter.unusedVariables false

/-- All elements lie from lo to hi. -/
def allB (xs : List Int) (lo hi : Int) : Bool := xs.all fun x => inR x lo hi
theorem allB_bad {xs : List Int} {lo hi : Int} {k : Nat} (hk : k < xs.length) (h : inR (xs.getD k 0) lo hi = false) : allB xs lo hi = false := by
  have e : xs.getD k 0 = xs[k] := by simp [List.getD, hk]
  rw [e] at h
  cases hh : allB xs lo hi with
  | false => rfl
  | true => have := List.all_eq_true.1 hh _ (List.getElem_mem hk); rw [h] at this; cases this
theorem allB_good {xs : List Int} {lo hi : Int} (h : ∀ j, j < xs.length → inR (xs.getD j 0) lo hi = true) : allB xs lo hi = true := by
  refine List.all_eq_true.2 fun x hx => ?_
  obtain ⟨j, hj, rfl⟩ := List.getElem_of_mem hx
  have := h j hj
  simpa [List.getD, hj] using this
theorem allB_get {xs : List Int} {lo hi : Int} (h : allB xs lo hi = true) {k : Nat} (hk : k < xs.length) : lo ≤ xs.getD k 0 ∧ xs.getD k 0 ≤ hi := by
  have e : xs.getD k 0 = xs[k] := by simp [List.getD, hk]
  rw [e]
  exact inR_true (List.all_eq_true.1 h _ (List.getElem_mem hk))

theorem allIn1_any (n lo hi : Int) (p q : Nat) (w : World) (c0 : w.cell? ⟨p, 0, none⟩ = some (.int .i64 lo)) (c1 : w.cell? ⟨q, 0, none⟩ = some (.int .i64 hi)) :
    Calls Try.prog 68 #[.int .i64 n, .pointer (some ⟨p, 0, none⟩), .pointer (some ⟨q, 0, none⟩)] w fun e w' => e = .returned (.bool (!inR n lo hi)) ∧ w = w' := by
  go_enter Try.func68, Try.ntmps68
  go_wp2_with (go_at_call 55; refine (inRange_any _ _ _ _).mono ?_; rintro e w' ⟨rfl, rfl⟩)
  go_ret
  exact ⟨rfl, rfl⟩
/-- What slices.IndexFunc hands back. -/
def IdxOf (b : Bool) (w : World) (e : Ending) (w' : World) : Prop := ∃ r : Int, e = .returned (.int .i64 r) ∧ decide (0 ≤ r) = b ∧ w = w'
theorem IndexFunc_any (xs : List Int) (a : Option Addr) (c base : Nat) (lo hi : Int) (p q : Nat) (w : World) (h : HasL base w a c xs) (hx : xs.length < 1000000000000) (c0 : w.cell? ⟨p, 0, none⟩ = some (.int .i64 lo)) (c1 : w.cell? ⟨q, 0, none⟩ = some (.int .i64 hi)) :
    Calls Try.prog 70 #[.slice a xs.length c, .func (Fn.func 68) #[] #[.pointer (some ⟨p, 0, none⟩), .pointer (some ⟨q, 0, none⟩)]] w (IdxOf (!allB xs lo hi) w) := by
  have C0 := Lib.hid c0
  have C1 := Lib.hid c1
  have H := Lib.hid h
  clear c0 c1 h
  go_enter Try.func70, Try.ntmps70
  go_wp2
  go_loop [5, 8] (fun _ i => ∃ k : Nat, k ≤ xs.length ∧ i = .int .i64 k ∧ Hid (∀ j, j < k → inR (xs.getD j 0) lo hi = true)) (fun _ i => xs.length - (intOf i).toNat)
  case atStart => exact ⟨0, Nat.zero_le _, rfl, Lib.hid (fun j hj => by omega)⟩
  case round =>
    obtain ⟨k, hk, rfl, hg⟩ := hrel
    by_cases hlt : k < xs.length
    · obtain ⟨g, rfl, _, _, hc, _⟩ := H.out.cells (by omega)
      have q1 := hc k hlt
      clear hc
      obtain ⟨z, hz⟩ : ∃ z, Hid (xs.getD k 0 = z) := ⟨_, Lib.hid rfl⟩
      rw [hz.out] at q1
      have r0 : (0 : Int) ≤ (k : Int) := by omega
      have r1 : (k : Int) < (xs.length : Int) := by omega
      cases hb : inR z lo hi with
      | false =>
        have HB := Lib.hid (allB_bad hlt (by rw [hz.out]; exact hb))
        go_wp2_with (go_at_call 68; refine (allIn1_any z lo hi p q _ C0.out C1.out).mono ?_; rintro e w' ⟨rfl, rfl⟩)
        go_ret
        exact ⟨k, rfl, by rw [HB.out]; simp, rfl⟩
      | true =>
        have HB : Hid (∀ j, j < k + 1 → inR (xs.getD j 0) lo hi = true) := Lib.hid fun j hj => by
          by_cases e : j = k
          · subst e; rw [hz.out]; exact hb
          · exact hg.out j (by omega)
        go_wp2_with (go_at_call 68; refine (allIn1_any z lo hi p q _ C0.out C1.out).mono ?_; rintro e w' ⟨rfl, rfl⟩)
        go_round
        case rel => exact ⟨k + 1, by omega, by go_num, HB⟩
        case measure => simp [intOf]; omega
    · have hke : k = xs.length := by omega
      subst hke
      have HG := Lib.hid (allB_good hg.out)
      go_wp2
      go_ret
      exact ⟨-1, rfl, by rw [HG.out]; rfl, rfl⟩
theorem allIn_any (xs : List Int) (a : Option Addr) (c base : Nat) (lo hi : Int) (w : World) (h : HasL base w a c xs) (hx : xs.length < 1000000000000) :
    Calls Try.prog 59 #[.slice a xs.length c, .int .i64 lo, .int .i64 hi] w fun e w' => e = .returned (.bool (allB xs lo hi)) ∧ Below w.heap.size w w' := by
  have H := Lib.hid h
  clear h
  go_enter Try.func59, Try.ntmps59
  go_wp2_with (first | (go_at_call 70; refine (IndexFunc_any xs a c base lo hi _ _ _ ((H.out.later (bw_alloc (bw_refl _) _)).later (bw_alloc (bw_refl _) _)) hx (by simp) (by simp)).mono ?_; rintro e w' ⟨r, rfl, hr, rfl⟩) | (go_at_call 67; go_in))
  go_ret
  exact ⟨ret_bool (by simp), bw_alloc (bw_alloc (bw_refl _) _) _⟩
theorem allIn_of {xs : List Int} {a : Option Addr} {c base : Nat} {lo hi : Int} {b : Bool} {w : World} (hb : allB xs lo hi = b) (h : HasL base w a c xs) (hx : xs.length < 1000000000000) :
    Calls Try.prog 59 #[.slice a xs.length c, .int .i64 lo, .int .i64 hi] w fun e w' => e = .returned (.bool b) ∧ Below w.heap.size w w' := hb ▸ allIn_any xs a c base lo hi w h hx
/-- Outputs: from 3 to 64 numbers from 0 to 99999. -/
def outB (xs : List Int) : Bool := inR xs.length 3 64 && allB xs 0 99999
end Go.Proofs.Ytkepnjdomlfpdaa

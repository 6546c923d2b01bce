/-
  Contracts of floorMod, of slices.IndexFunc with the test for what is not 0, of slices.Compare, slices.Clone, and of the sum of a list's squares. Conditions stand in each contract.
-/
import Derived.Test.YthkgaldpajnjgaaApp
import Derived.Test.YthkgaldpajnjgaaSrc
namespace Go.Proofs.Ythkgaldpajnjgaa
open Go.RowKit
set_option linter.unusedVariables false

/-- The sum of a list's squares. -/
def sqs : List Int → Int
  | [] => 0
  | x :: xs => x * x + sqs xs
theorem sqs_snoc : ∀ (xs : List Int) (y : Int), sqs (xs ++ [y]) = sqs xs + y * y
  | [], y => by simp [sqs]
  | x :: xs, y => by simp only [List.cons_append, sqs, sqs_snoc xs y]; omega
theorem sq_nonneg (x : Int) : 0 ≤ x * x := by
  rcases Int.le_total 0 x with h | h
  · exact Int.mul_nonneg h h
  · exact Int.mul_nonneg_of_nonpos_of_nonpos h h
theorem sqs_nonneg : ∀ xs : List Int, 0 ≤ sqs xs
  | [] => by simp [sqs]
  | x :: xs => by have h1 := sq_nonneg x; have h2 := sqs_nonneg xs; simp only [sqs]; omega
theorem sqs_take {xs : List Int} {k : Nat} (h : k < xs.length) : sqs (xs.take (k + 1)) = sqs (xs.take k) + xs.getD k 0 * xs.getD k 0 := by
  have e : xs.take (k + 1) = xs.take k ++ [xs.getD k 0] := by
    rw [List.take_add_one, List.getElem?_eq_getElem h]
    simp [List.getD, h]
  rw [e, sqs_snoc]
/-- All elements lie between -400000 and 400000. -/
def Small (xs : List Int) : Prop := ∀ j, j < xs.length → -400000 ≤ xs.getD j 0 ∧ xs.getD j 0 ≤ 400000
theorem sq_le {x : Int} {b : Int} (h1 : -b ≤ x) (h2 : x ≤ b) : x * x ≤ b * b := by
  rcases Int.le_total 0 x with h | h
  · exact Int.mul_le_mul h2 h2 h (by omega)
  · have : x * x = (-x) * (-x) := by rw [Int.neg_mul_neg]
    rw [this]; exact Int.mul_le_mul (by omega) (by omega) (by omega) (by omega)
theorem Small.sq {xs : List Int} (h : Small xs) {k : Nat} (hk : k < xs.length) : 0 ≤ xs.getD k 0 * xs.getD k 0 ∧ xs.getD k 0 * xs.getD k 0 ≤ 160000000000 := by
  have h1 := h k hk
  exact ⟨sq_nonneg _, by have := sq_le (b := 400000) h1.1 h1.2; omega⟩
theorem Small.bd {xs : List Int} (h : Small xs) (hl : xs.length ≤ 8) : ∀ k, k ≤ xs.length → 0 ≤ sqs (xs.take k) ∧ sqs (xs.take k) ≤ k * 160000000000
  | 0, _ => by simp [sqs]
  | k + 1, hk => by
    have h1 := Small.bd h hl k (by omega)
    have h2 := h.sq (k := k) (by omega)
    rw [sqs_take (by omega)]
    omega
theorem Small.step {xs : List Int} (h : Small xs) (hl : xs.length ≤ 8) {k : Nat} (hk : k < xs.length) :
    ∃ x q s s', xs.getD k 0 = x ∧ x * x = q ∧ sqs (xs.take k) = s ∧ sqs (xs.take (k + 1)) = s' ∧ s + q = s' ∧ IntKind.i64.wrap q = q ∧ IntKind.i64.wrap s' = s' ∧ wrap64 q = q ∧ wrap64 s' = s' := by
  have h1 := h.bd hl k (by omega)
  have h2 := h.sq hk
  have h3 := sqs_take hk
  have hk8 : (k : Int) ≤ 8 := by omega
  have h4 : sqs (xs.take (k + 1)) ≤ 2000000000000 := by omega
  have h5 : 0 ≤ sqs (xs.take (k + 1)) := by omega
  refine ⟨_, _, _, _, rfl, rfl, rfl, rfl, h3.symm, ?_, ?_, ?_, ?_⟩
  · rw [IntKind.wrap_i64]; omega
  · rw [IntKind.wrap_i64]; omega
  · exact IntWalk.wrap64_in _ ⟨by omega, by omega⟩
  · exact IntWalk.wrap64_in _ ⟨by omega, by omega⟩

theorem fm_law {n m : Int} (h : 0 < m) : (n.tmod m + m).tmod m = n % m ∧ -m < n.tmod m ∧ n.tmod m < m := by
  have h1 := Int.tmod_lt_of_pos n h
  have h2 : -m < n.tmod m := by
    have h3 := Int.tmod_lt_of_pos (-n) h
    rw [Int.neg_tmod] at h3
    omega
  refine ⟨?_, h2, h1⟩
  rw [Int.tmod_eq_emod_of_nonneg (by omega), Int.add_emod_right]
  have h4 : n % m = (m * (n.tdiv m) + n.tmod m) % m := by rw [Int.mul_tdiv_add_tmod]
  rw [h4, Int.add_comm, Int.add_mul_emod_self_left]

theorem floorMod_any (n m : Int) (w : World) (h1 : 0 < m) (h2 : m ≤ 100000) :
    Calls Try.prog 25 #[.int .i64 n, .int .i64 m] w fun e w' => e = .returned (.int .i64 (n % m)) ∧ w = w' := by
  obtain ⟨f1, f2, f3⟩ := fm_law (n := n) h1
  have b1 : 0 < n.tmod m + m := by omega
  have b2 : n.tmod m + m < 200000 := by omega
  obtain ⟨t, HT⟩ : ∃ t, Hid (n.tmod m = t) := ⟨_, Lib.hid rfl⟩
  rw [HT.out] at f1 b1 b2 f2 f3
  have ht := HT.out
  have hw : wrap64 (t + m) = t + m := IntWalk.wrap64_in _ ⟨by omega, by omega⟩
  obtain ⟨r, HR⟩ : ∃ r, Hid (n % m = r) := ⟨_, Lib.hid rfl⟩
  rw [HR.out] at f1 ⊢
  go_enter Try.func25, Try.ntmps25
  go_wp2
  go_ret
  exact ⟨rfl, rfl⟩
theorem floorMod_of {n m r : Int} {w : World} (h1 : 0 < m) (h2 : m ≤ 100000) (h : n % m = r) :
    Calls Try.prog 25 #[.int .i64 n, .int .i64 m] w fun e w' => e = .returned (.int .i64 r) ∧ w = w' := h ▸ floorMod_any n m w h1 h2
theorem offer1_any (n : Int) (w : World) :
    Calls Try.prog 22 #[.int .i64 n] w fun e w' => e = .returned (.bool (decide (n ≠ 0))) ∧ w = w' := by
  go_enter Try.func22, Try.ntmps22
  go_wp2
  go_ret
  exact ⟨ret_bool (by by_cases h : n = 0 <;> simp [h]), rfl⟩
/-- r is the place of the list's first element that is not 0, or -1. -/
def FirstAt (xs : List Int) (r : Int) : Prop := (r = -1 ∧ ∀ j, j < xs.length → xs.getD j 0 = 0) ∨ ∃ k : Nat, r = k ∧ k < xs.length ∧ xs.getD k 0 ≠ 0 ∧ ∀ j, j < k → xs.getD j 0 = 0
theorem FindFirst_any (xs : List Int) (a : Option Addr) (c base : Nat) (w : World) (h : HasL base w a c xs) (hx : xs.length < 1000000000000) :
    Calls Try.prog 21 #[.slice a xs.length c, .func (Fn.func 22) #[] #[]] w fun e w' => ∃ r : Int, e = .returned (.int .i64 r) ∧ FirstAt xs r ∧ w = w' := by
  have H := Lib.hid h
  clear h
  go_enter Try.func21, Try.ntmps21
  go_wp2
  go_loop [5, 8] (fun _ i => ∃ k : Nat, k ≤ xs.length ∧ i = .int .i64 k ∧ Hid (∀ j, j < k → xs.getD j 0 = 0)) (fun _ i => xs.length - (intOf i).toNat)
  case atStart => exact ⟨0, Nat.zero_le _, rfl, Lib.hid (fun j hj => by omega)⟩
  case round =>
    obtain ⟨k, hk, rfl, hg⟩ := hrel
    by_cases hlt : k < xs.length
    · obtain ⟨g, rfl, _, _, hc, _⟩ := H.out.cells (by omega)
      have q1 := hc k hlt
      clear hc
      obtain ⟨z, hz⟩ : ∃ z, Hid (xs.getD k 0 = z) := ⟨_, Lib.hid rfl⟩
      rw [hz.out] at q1
      have r0 : (0 : Int) ≤ (k : Int) := by omega
      have r1 : (k : Int) < (xs.length : Int) := by omega
      have hcall := fun w => offer1_any z w
      by_cases hb : z = 0
      · have HB : Hid (∀ j, j < k + 1 → xs.getD j 0 = 0) := Lib.hid fun j hj => by
          by_cases e : j = k
          · subst e; rw [hz.out]; exact hb
          · exact hg.out j (by omega)
        have hd : decide (z ≠ 0) = false := by simp [hb]
        rw [hd] at hcall
        clear hb hd
        go_wp2_with (go_at_call 22; refine (hcall _).mono ?_; rintro e w' ⟨rfl, rfl⟩)
        go_round
        case rel => exact ⟨k + 1, by omega, by go_num, HB⟩
        case measure => simp [intOf]; omega
      · have HB : Hid (FirstAt xs k) := Lib.hid (.inr ⟨k, rfl, hlt, by rw [hz.out]; exact hb, hg.out⟩)
        have hd : decide (z ≠ 0) = true := by simp [hb]
        rw [hd] at hcall
        clear hb hd
        go_wp2_with (go_at_call 22; refine (hcall _).mono ?_; rintro e w' ⟨rfl, rfl⟩)
        go_ret
        exact ⟨k, rfl, HB.out, rfl⟩
    · have hke : k = xs.length := by omega
      subst hke
      have HG : Hid (FirstAt xs (-1)) := Lib.hid (.inl ⟨rfl, hg.out⟩)
      go_wp2
      go_ret
      exact ⟨-1, rfl, HG.out, rfl⟩
theorem cmpI_any (x y : Int) (w : World) : Calls Try.prog 27 #[.int .i64 x, .int .i64 y] w fun e w' => ∃ r : Int, e = .returned (.int .i64 r) ∧ (r = 0 ∨ r = 1 ∨ r = -1) ∧ w = w' := by
  by_cases h1 : x < y
  · go_enter Try.func27, Try.ntmps27
    go_wp2_with (go_at_call 29; go_in)
    go_ret
    exact ⟨-1, rfl, by simp, rfl⟩
  · by_cases h2 : x > y
    · go_enter Try.func27, Try.ntmps27
      go_wp2_with (go_at_call 29; go_in)
      go_ret
      exact ⟨1, rfl, by simp, rfl⟩
    · go_enter Try.func27, Try.ntmps27
      go_wp2_with (go_at_call 29; go_in)
      go_ret
      exact ⟨0, rfl, by simp, rfl⟩
/-- It ends, with some number. -/
theorem CompareI_any (xs ys : List Int) (a1 a2 : Option Addr) (c1 c2 b1 b2 : Nat) (w : World) (h1 : HasL b1 w a1 c1 xs) (h2 : HasL b2 w a2 c2 ys) (hx : xs.length < 1000000000000) (hy : ys.length < 1000000000000) :
    Calls Try.prog 23 #[.slice a1 xs.length c1, .slice a2 ys.length c2] w fun e w' => ∃ r : Int, e = .returned (.int .i64 r) ∧ w = w' := by
  have H1 := Lib.hid h1
  have H2 := Lib.hid h2
  clear h1 h2
  have hcall := fun x y w => cmpI_any x y w
  go_enter Try.func23, Try.ntmps23
  go_wp2
  go_loop [5, 6, 7, 8, 11] (fun _ _ _ _ i => ∃ k : Nat, k ≤ xs.length ∧ i = .int .i64 k) (fun _ _ _ _ i => xs.length - (intOf i).toNat)
  case atStart => exact ⟨0, Nat.zero_le _, rfl⟩
  case round =>
    obtain ⟨k, hk, rfl⟩ := hrel
    by_cases hlt : k < xs.length
    · obtain ⟨g1, rfl, _, _, hc1, _⟩ := H1.out.cells (by omega)
      have q1 := hc1 k hlt
      clear hc1
      obtain ⟨x, hx1⟩ : ∃ z, Hid (xs.getD k 0 = z) := ⟨_, Lib.hid rfl⟩
      rw [hx1.out] at q1
      have r0 : (0 : Int) ≤ (k : Int) := by omega
      have r1 : (k : Int) < (xs.length : Int) := by omega
      by_cases hly : k < ys.length
      · obtain ⟨g2, rfl, _, _, hc2, _⟩ := H2.out.cells (by omega)
        have q2 := hc2 k hly
        clear hc2
        obtain ⟨y, hy1⟩ : ∃ z, Hid (ys.getD k 0 = z) := ⟨_, Lib.hid rfl⟩
        rw [hy1.out] at q2
        have r2 : (k : Int) < (ys.length : Int) := by omega
        go_wp2_with (go_at_call 27; refine (hcall x y _).mono ?_; rintro e w' ⟨r, rfl, hr, rfl⟩; rcases hr with rfl | rfl | rfl)
        · go_round
          case rel => exact ⟨k + 1, by omega, by go_num⟩
          case measure => simp [intOf]; omega
        · go_ret
          first | exact ⟨_, rfl, rfl⟩ | exact ⟨⟨_, rfl⟩, rfl⟩
        · go_ret
          first | exact ⟨_, rfl, rfl⟩ | exact ⟨⟨_, rfl⟩, rfl⟩
      · have r2 : ¬ (k : Int) < (ys.length : Int) := by omega
        go_wp2
        go_ret
        first | exact ⟨_, rfl, rfl⟩ | exact ⟨⟨_, rfl⟩, rfl⟩
    · have hke : k = xs.length := by omega
      subst hke
      by_cases hl : (xs.length : Int) < (ys.length : Int)
      · go_wp2
        go_ret
        first | exact ⟨_, rfl, rfl⟩ | exact ⟨⟨_, rfl⟩, rfl⟩
      · go_wp2
        go_ret
        first | exact ⟨_, rfl, rfl⟩ | exact ⟨⟨_, rfl⟩, rfl⟩
theorem CloneI_any (xs : List Int) (a : Option Addr) (c base : Nat) (w : World) (h : HasL base w a c xs) (h0 : 0 < xs.length) (hx : xs.length < 100000000) :
    Calls Try.prog 24 #[.slice a xs.length c] w fun e w' => ∃ v', e = .returned v' ∧ OwnI .i64 w.heap.size 2 w w' v' xs := by
  obtain ⟨g, rfl, hg0, hg1, hc, _⟩ := h.cells h0
  have HC2 : Hid (∀ o j, j < xs.length → (w.alloc o).cell? ⟨g, 0 + j, none⟩ = some (.int .i64 (xs.getD j 0))) := Lib.hid fun o j hj => by
    rw [(bw_alloc (bw_refl w) o).cell (p := ⟨g, 0 + j, none⟩) hg1, Nat.zero_add]; exact hc j hj
  have HX := Lib.hid hx
  clear hc h hx h0
  obtain ⟨n, HN⟩ : ∃ n, Hid (xs.length = n) := ⟨_, Lib.hid rfl⟩
  rw [HN.out]
  have q22 : ∀ (w : World) (a : Option Addr) (n c n' c' : Nat), (binOp .eql 29 (.slice a n c) (.slice none n' c')).run Try.prog w = .ok (.bool a.isNone) w := fun w a n c n' c' => Lib.run_eql_slice_nil w _ _ a n c n' c' tI.under
  go_enter Try.func24, Try.ntmps24
  go_wp2_with (at_builtin; refine wpAppAll tI rfl _ _ rfl (ys := xs) (off := 0) rfl (OwnI.made (bw_refl _) (Nat.le_refl _)) (by rw [HN.out]; rfl) (HC2.out _) (by decide) (by have := HX.out; simp; omega) ?_; intro v' w1 hown1)
  go_ret
  exact ⟨_, rfl, by simpa using hown1⟩
theorem CloneNil_any (w : World) :
    Calls Try.prog 24 #[.slice none 0 0] w fun e w' => e = .returned (.slice none 0 0) ∧ w = w' := by
  have q22 : ∀ (w : World) (a : Option Addr) (n c n' c' : Nat), (binOp .eql 29 (.slice a n c) (.slice none n' c')).run Try.prog w = .ok (.bool a.isNone) w := fun w a n c n' c' => Lib.run_eql_slice_nil w _ _ a n c n' c' tI.under
  go_enter Try.func24, Try.ntmps24
  go_wp2
  go_ret
  exact ⟨rfl, rfl⟩
theorem b10Squares_any (xs : List Int) (a : Option Addr) (c base : Nat) (w : World) (h : HasL base w a c xs) (hs : Small xs) (hl : xs.length ≤ 8) :
    Calls Try.prog 9 #[.slice a xs.length c] w fun e w' => e = .returned (.int .i64 (sqs xs)) ∧ ∃ n, w' = w.drewN n := by
  have H := Lib.hid h
  have HS := Lib.hid fun k (hk : k < xs.length) => hs.step hl hk
  clear h hs
  go_enter Try.func9, Try.ntmps9
  go_wp2
  go_loopw [3, 4] (fun s i wr => ∃ k : Nat, k ≤ xs.length ∧ i = .int .i64 k ∧ s = .int .i64 (sqs (xs.take k)) ∧ ∃ n, wr = w.drewN n) (fun _ i _ => xs.length - (intOf i).toNat)
  case atStart => exact ⟨0, Nat.zero_le _, rfl, rfl, 0, rfl⟩
  case round =>
    obtain ⟨k, hk, rfl, rfl, n, rfl⟩ := hrel
    by_cases hlt : k < xs.length
    · obtain ⟨x, q, s, s', e1, e2, e3, e4, e5, e6, e7, e8, e9⟩ := HS.out k hlt
      obtain ⟨g, rfl, _, _, hc, _⟩ := H.out.cells (by omega)
      have q1 := hc k hlt
      clear hc
      rw [e1] at q1
      rw [e3]
      have HE := Lib.hid e4
      clear e1 e3 e4
      have r0 : (0 : Int) ≤ (k : Int) := by omega
      have r1 : (k : Int) < (xs.length : Int) := by omega
      go_wp2
      go_quiet (fail)
      go_wp2
      go_roundw
      case rel => exact ⟨k + 1, by omega, by go_num, by rw [HE.out], _, rfl⟩
      case measure => simp [intOf]; omega
    · have hke : k = xs.length := by omega
      subst hke
      have he : xs.take xs.length = xs := List.take_length
      rw [he]
      go_wp2
      go_ret
      exact ⟨rfl, n, rfl⟩
end Go.Proofs.Ythkgaldpajnjgaa

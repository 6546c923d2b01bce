/-
  Contracts of MulPolys, DividePolys and GcdPolys, both forms. No condition beyond int64's bounds.
-/
import Derived.Test.YtkepnjdomlfpdaaC19
namespace Go.Proofs.Ytkepnjdomlfpdaa
open Go.RowKit
set_option linter.unusedVariables false

def plB (p : Int) : Bool := inR p 0 4294967295
theorem plB_nat {p : Int} (h : plB p = true) : ∃ n : Nat, p = n ∧ n < 4294967296 := by
  have := inR_true h
  exact ⟨p.toNat, by omega, by omega⟩
theorem HasL.lit2 (x y : Int) (w : World) : HasL w.heap.size (w.alloc (.cells #[.int .i64 x, .int .i64 y] 2)) (some ⟨w.heap.size, 0, none⟩) 2 [x, y] :=
  .inr ⟨_, rfl, Nat.le_refl _, World.ownsRow_lit (base := w.heap.size) (e := 2) (size := 1) w #[.int .i64 x, .int .i64 y] 2 (Nat.le_refl _) (by decide) rfl⟩
theorem HasL.lit1 (x : Int) (w : World) : HasL w.heap.size (w.alloc (.cells #[.int .i64 x] 2)) (some ⟨w.heap.size, 0, none⟩) 1 [x] :=
  .inr ⟨_, rfl, Nat.le_refl _, World.ownsRow_lit (base := w.heap.size) (e := 2) (size := 1) w #[.int .i64 x] 1 (Nat.le_refl _) (by decide) rfl⟩
theorem arePolys_any (xs : List Int) (a : Option Addr) (c base : Nat) (w : World) (h : HasL base w a c xs) (hx : xs.length < 1000000000000) :
    Calls Try.prog 39 #[.slice a xs.length c] w fun e w' => e = .returned (.bool (allB xs 0 4294967295)) ∧ Below w.heap.size w w' := by
  have H := Lib.hid h
  clear h
  go_enter Try.func39, Try.ntmps39
  go_wp2_with (go_at_call 59; refine (allIn_any xs a c base 0 4294967295 _ H.out hx).mono ?_; rintro e w1 ⟨rfl, hb⟩)
  go_ret
  exact ⟨rfl, hb⟩
theorem arePolys_two {x y : Int} {b : Bool} (w : World) (h : (plB x && plB y) = b) :
    Calls Try.prog 39 #[.slice (some ⟨w.heap.size, 0, none⟩) 2 2] (w.alloc (.cells #[.int .i64 x, .int .i64 y] 2)) fun e w' => e = .returned (.bool b) ∧ Below w.heap.size w w' := by
  refine (arePolys_any [x, y] _ 2 _ _ (HasL.lit2 x y w) (by simp)).mono ?_
  rintro e w1 ⟨rfl, hb⟩
  exact ⟨ret_bool (by rw [← h]; simp [allB, plB]), (bw_alloc (bw_refl _) _).trans (hb.mono (by simp))⟩
theorem arePolys_one {x : Int} {b : Bool} (w : World) (h : plB x = b) :
    Calls Try.prog 39 #[.slice (some ⟨w.heap.size, 0, none⟩) 1 1] (w.alloc (.cells #[.int .i64 x] 2)) fun e w' => e = .returned (.bool b) ∧ Below w.heap.size w w' := by
  refine (arePolys_any [x] _ 1 _ _ (HasL.lit1 x w) (by simp)).mono ?_
  rintro e w1 ⟨rfl, hb⟩
  exact ⟨ret_bool (by rw [← h]; simp [allB, plB]), (bw_alloc (bw_refl _) _).trans (hb.mono (by simp))⟩
theorem l02Poly_any (p : Int) (w : World) : Calls Try.prog 37 #[.int .i64 p] w fun e w' => e = .returned (.bool (plB p)) ∧ w = w' := by
  go_enter Try.func37, Try.ntmps37
  go_wp2_with (go_at_call 54; refine (l00In_any _ _ _ _).mono ?_; rintro e w' ⟨rfl, rfl⟩)
  go_ret
  exact ⟨rfl, rfl⟩
theorem l02Poly_of {p : Int} {b : Bool} (h : plB p = b) (w : World) : Calls Try.prog 37 #[.int .i64 p] w fun e w' => e = .returned (.bool b) ∧ w = w' := h ▸ l02Poly_any p w
def mulB (a b : Int) : Bool := (plB a && plB b) && decide (mulp a.toNat b.toNat < 4294967296)
def mulV (a b : Int) : Int := if mulB a b = true then ((mulp a.toNat b.toNat : Nat) : Int) else 0
theorem mulV_no {a b : Int} (h : mulB a b = false) : mulV a b = 0 := by simp [mulV, h]
theorem MulPolys_any (a b : Int) (w : World) :
    Calls Try.prog 14 #[.int .i64 a, .int .i64 b] w fun e w' => e = .returned (.tuple #[.int .i64 (mulV a b), .bool (mulB a b)]) ∧ Below w.heap.size w w' := by
  cases h : plB a && plB b with
  | false =>
    have e : mulB a b = false := by simp [mulB, h]
    rw [mulV_no e, e]
    clear e
    go_enter Try.func14, Try.ntmps14
    go_wp2_with (go_at_call 39; refine (arePolys_two _ h).mono ?_; rintro e w1 ⟨rfl, hb⟩)
    go_ret2
    exact ⟨rfl, hb⟩
  | true =>
    obtain ⟨n, rfl, hn⟩ := plB_nat (Bool.and_eq_true_iff.1 h).1
    obtain ⟨m, rfl, hm⟩ := plB_nat (Bool.and_eq_true_iff.1 h).2
    have k := mulK_lt63 hn (b := m) (bl_le (by simpa using hm))
    have k' : mulp n m < 9223372036854775808 := k
    have e : mulB n m = decide (mulp n m < 4294967296) := by simp [mulB, h]
    obtain ⟨P, hP⟩ : ∃ P : Int, Hid (((mulp n m : Nat) : Int) = P) := ⟨_, Lib.hid rfl⟩
    have k2 : P < 9223372036854775808 := by have := hP.out; omega
    have k3 : 0 ≤ P := by have := hP.out; omega
    have HN := Lib.hid hn
    have HM := Lib.hid hm
    clear k' hn hm
    by_cases hl : P < 4294967296
    · have e1 : mulB n m = true := by rw [e]; exact decide_eq_true (by have := hP.out; omega)
      have e2 : mulV n m = P := by simp only [mulV, e1, if_true, Int.toNat_natCast]; exact hP.out
      rw [e2, e1]
      clear e1 e2 e k
      go_enter Try.func14, Try.ntmps14
      go_wp2_with (first | (go_at_call 39; refine (arePolys_two _ h).mono ?_; rintro e w1 ⟨rfl, hb⟩) | (go_at_call 40; refine (mulPolys_any n m _ HN.out HM.out).mono ?_; rw [hP.out]; rintro e w' ⟨rfl, rfl⟩))
      go_ret2
      exact ⟨rfl, hb⟩
    · have e1 : mulB n m = false := by rw [e]; exact decide_eq_false (by have := hP.out; omega)
      rw [mulV_no e1, e1]
      clear e1 e k
      go_enter Try.func14, Try.ntmps14
      go_wp2_with (first | (go_at_call 39; refine (arePolys_two _ h).mono ?_; rintro e w1 ⟨rfl, hb⟩) | (go_at_call 40; refine (mulPolys_any n m _ HN.out HM.out).mono ?_; rw [hP.out]; rintro e w' ⟨rfl, rfl⟩))
      go_ret2
      exact ⟨rfl, hb⟩
theorem sMulPolys_any (a b : Int) (w : World) :
    Calls Try.prog 13 #[.int .i64 a, .int .i64 b] w fun e w' => e = .returned (.tuple #[.int .i64 (mulV a b), .bool (mulB a b)]) ∧ Below w.heap.size w w' := by
  cases h1 : plB a with
  | false =>
    have e : mulB a b = false := by simp [mulB, h1]
    rw [mulV_no e, e]
    clear e
    go_enter Try.func13, Try.ntmps13
    go_wp2_with (go_at_call 37; refine (l02Poly_of h1 _).mono ?_; rintro e w' ⟨rfl, rfl⟩)
    go_ret2
    exact ⟨rfl, bw_refl _⟩
  | true =>
    cases h2 : plB b with
    | false =>
      have e : mulB a b = false := by simp [mulB, h2]
      rw [mulV_no e, e]
      clear e
      go_enter Try.func13, Try.ntmps13
      go_wp2_with (go_at_call 37; (first | with_reducible refine (l02Poly_of h1 _).mono ?_ | with_reducible refine (l02Poly_of h2 _).mono ?_); rintro e w' ⟨rfl, rfl⟩)
      go_ret2
      exact ⟨rfl, bw_refl _⟩
    | true =>
      obtain ⟨n, rfl, hn⟩ := plB_nat h1
      obtain ⟨m, rfl, hm⟩ := plB_nat h2
      have k := mulK_lt63 hn (b := m) (bl_le (by simpa using hm))
      have k' : mulp n m < 9223372036854775808 := k
      have e : mulB n m = decide (mulp n m < 4294967296) := by simp [mulB, h1, h2]
      obtain ⟨P, hP⟩ : ∃ P : Int, Hid (((mulp n m : Nat) : Int) = P) := ⟨_, Lib.hid rfl⟩
      have k2 : P < 9223372036854775808 := by have := hP.out; omega
      have k3 : 0 ≤ P := by have := hP.out; omega
      have HN := Lib.hid hn
      have HM := Lib.hid hm
      clear k' hn hm
      by_cases hl : P < 4294967296
      · have e1 : mulB n m = true := by rw [e]; exact decide_eq_true (by have := hP.out; omega)
        have e2 : mulV n m = P := by simp only [mulV, e1, if_true, Int.toNat_natCast]; exact hP.out
        rw [e2, e1]
        clear e1 e2 e k
        go_enter Try.func13, Try.ntmps13
        go_wp2_with (first | (go_at_call 37; (first | with_reducible refine (l02Poly_of h1 _).mono ?_ | with_reducible refine (l02Poly_of h2 _).mono ?_); rintro e w' ⟨rfl, rfl⟩) | (go_at_call 38; refine (l02Mul_any n m _ HN.out HM.out).mono ?_; rw [hP.out]; rintro e w' ⟨rfl, rfl⟩))
        go_ret2
        exact ⟨rfl, bw_refl _⟩
      · have e1 : mulB n m = false := by rw [e]; exact decide_eq_false (by have := hP.out; omega)
        rw [mulV_no e1, e1]
        clear e1 e k
        go_enter Try.func13, Try.ntmps13
        go_wp2_with (first | (go_at_call 37; (first | with_reducible refine (l02Poly_of h1 _).mono ?_ | with_reducible refine (l02Poly_of h2 _).mono ?_); rintro e w' ⟨rfl, rfl⟩) | (go_at_call 38; refine (l02Mul_any n m _ HN.out HM.out).mono ?_; rw [hP.out]; rintro e w' ⟨rfl, rfl⟩))
        go_ret2
        exact ⟨rfl, bw_refl _⟩
def divB (a b : Int) : Bool := (plB a && plB b) && !(b == 0)
def divV (a b : Int) : Int × Int := if divB a b = true then (((dv b.toNat 0 a.toNat).1 : Int), ((dv b.toNat 0 a.toNat).2 : Int)) else (0, 0)
theorem divV_no {a b : Int} (h : divB a b = false) : divV a b = (0, 0) := by simp [divV, h]
theorem DividePolys_any (a b : Int) (w : World) :
    Calls Try.prog 18 #[.int .i64 a, .int .i64 b] w fun e w' => e = .returned (.tuple #[.int .i64 (divV a b).1, .int .i64 (divV a b).2, .bool (divB a b)]) ∧ Below w.heap.size w w' := by
  cases h : plB a && plB b with
  | false =>
    have e : divB a b = false := by simp [divB, h]
    rw [divV_no e, e]
    clear e
    go_enter Try.func18, Try.ntmps18
    go_wp2_with (go_at_call 39; refine (arePolys_two _ h).mono ?_; rintro e w1 ⟨rfl, hb⟩)
    go_ret3
    exact ⟨rfl, hb⟩
  | true =>
    obtain ⟨n, rfl, hn⟩ := plB_nat (Bool.and_eq_true_iff.1 h).1
    obtain ⟨m, rfl, hm⟩ := plB_nat (Bool.and_eq_true_iff.1 h).2
    by_cases h0 : m = 0
    · subst h0
      have e : divB n ((0 : Nat) : Int) = false := by simp [divB]
      rw [divV_no e, e]
      clear e hn hm
      go_enter Try.func18, Try.ntmps18
      go_wp2_with (go_at_call 39; refine (arePolys_two _ h).mono ?_; rintro e w1 ⟨rfl, hb⟩)
      go_ret3
      exact ⟨rfl, hb⟩
    · have e1 : divB n m = true := by simp [divB, h]; omega
      have e2 : divV n m = (((dv m 0 n).1 : Int), ((dv m 0 n).2 : Int)) := by simp only [divV, e1, if_true, Int.toNat_natCast]
      rw [e2, e1]
      have HN := Lib.hid (show n < 9223372036854775808 by omega)
      have HM := Lib.hid (show m < 9223372036854775808 by omega)
      have HP := Lib.hid (show 0 < m by omega)
      have m0 : ¬ (m : Int) = 0 := by omega
      clear e1 e2 hn hm
      go_enter Try.func18, Try.ntmps18
      go_wp2_with (first | (go_at_call 39; refine (arePolys_two _ h).mono ?_; rintro e w1 ⟨rfl, hb⟩) | (go_at_call 48; refine (dividePolys_any n m _ HN.out HP.out HM.out).mono ?_; rintro e w' ⟨rfl, rfl⟩))
      go_ret3
      exact ⟨rfl, hb⟩
theorem sDividePolys_any (a b : Int) (w : World) :
    Calls Try.prog 17 #[.int .i64 a, .int .i64 b] w fun e w' => e = .returned (.tuple #[.int .i64 (divV a b).1, .int .i64 (divV a b).2, .bool (divB a b)]) ∧ Below w.heap.size w w' := by
  cases h1 : plB a with
  | false =>
    have e : divB a b = false := by simp [divB, h1]
    rw [divV_no e, e]
    clear e
    go_enter Try.func17, Try.ntmps17
    go_wp2_with (go_at_call 37; refine (l02Poly_of h1 _).mono ?_; rintro e w' ⟨rfl, rfl⟩)
    go_ret3
    exact ⟨rfl, bw_refl _⟩
  | true =>
    cases h2 : plB b with
    | false =>
      have e : divB a b = false := by simp [divB, h2]
      rw [divV_no e, e]
      clear e
      go_enter Try.func17, Try.ntmps17
      go_wp2_with (go_at_call 37; (first | with_reducible refine (l02Poly_of h1 _).mono ?_ | with_reducible refine (l02Poly_of h2 _).mono ?_); rintro e w' ⟨rfl, rfl⟩)
      go_ret3
      exact ⟨rfl, bw_refl _⟩
    | true =>
      obtain ⟨n, rfl, hn⟩ := plB_nat h1
      obtain ⟨m, rfl, hm⟩ := plB_nat h2
      by_cases h0 : m = 0
      · subst h0
        have e : divB n ((0 : Nat) : Int) = false := by simp [divB]
        rw [divV_no e, e]
        clear e hn hm
        have h2 : plB 0 = true := h2
        go_enter Try.func17, Try.ntmps17
        go_wp2_with (go_at_call 37; (first | with_reducible refine (l02Poly_of h1 _).mono ?_ | with_reducible refine (l02Poly_of h2 _).mono ?_); rintro e w' ⟨rfl, rfl⟩)
        go_ret3
        exact ⟨rfl, bw_refl _⟩
      · have e1 : divB n m = true := by simp [divB, h1, h2]; omega
        have e2 : divV n m = (((dv m 0 n).1 : Int), ((dv m 0 n).2 : Int)) := by simp only [divV, e1, if_true, Int.toNat_natCast]
        rw [e2, e1]
        have HN := Lib.hid (show n < 9223372036854775808 by omega)
        have HM := Lib.hid (show m < 9223372036854775808 by omega)
        have HP := Lib.hid (show 0 < m by omega)
        have m0 : ¬ (m : Int) = 0 := by omega
        clear e1 e2 hn hm
        go_enter Try.func17, Try.ntmps17
        go_wp2_with (first | (go_at_call 37; (first | with_reducible refine (l02Poly_of h1 _).mono ?_ | with_reducible refine (l02Poly_of h2 _).mono ?_); rintro e w' ⟨rfl, rfl⟩) | (go_at_call 47; refine (l02Div_any n m _ HN.out HP.out HM.out).mono ?_; rintro e w' ⟨rfl, rfl⟩))
        go_ret3
        exact ⟨rfl, bw_refl _⟩
def gcdB (a b : Int) : Bool := plB a && plB b
def gcdV (a b : Int) : Int := if gcdB a b = true then ((gcp a.toNat b.toNat : Nat) : Int) else 0
theorem gcdV_no {a b : Int} (h : gcdB a b = false) : gcdV a b = 0 := by simp [gcdV, h]
theorem GcdPolys_any (a b : Int) (w : World) :
    Calls Try.prog 25 #[.int .i64 a, .int .i64 b] w fun e w' => e = .returned (.tuple #[.int .i64 (gcdV a b), .bool (gcdB a b)]) ∧ Below w.heap.size w w' := by
  cases h : gcdB a b with
  | false =>
    rw [gcdV_no h]
    go_enter Try.func25, Try.ntmps25
    go_wp2_with (go_at_call 39; refine (arePolys_two _ h).mono ?_; rintro e w1 ⟨rfl, hb⟩)
    go_ret2
    exact ⟨rfl, hb⟩
  | true =>
    obtain ⟨n, rfl, hn⟩ := plB_nat (Bool.and_eq_true_iff.1 h).1
    obtain ⟨m, rfl, hm⟩ := plB_nat (Bool.and_eq_true_iff.1 h).2
    have e2 : gcdV n m = ((gcp n m : Nat) : Int) := by simp only [gcdV, h, if_true, Int.toNat_natCast]
    rw [e2]
    obtain ⟨G, hG⟩ : ∃ G, Hid (gcp n m = G) := ⟨_, Lib.hid rfl⟩
    rw [hG.out]
    have HN := Lib.hid (show n < 9223372036854775808 by omega)
    have HM := Lib.hid (show m < 9223372036854775808 by omega)
    clear e2 hn hm
    go_enter Try.func25, Try.ntmps25
    go_wp2_with (go_at_call 39; refine (arePolys_two _ h).mono ?_; rintro e w1 ⟨rfl, hb⟩)
    have HB := Lib.hid hb
    clear h hb
    go_loop [0, 1] (fun x y => ∃ p q : Nat, Hid (p < 9223372036854775808) ∧ Hid (q < 9223372036854775808) ∧ x = .int .i64 p ∧ y = .int .i64 q ∧ Hid (gcp p q = G)) (fun _ y => (intOf y).toNat)
    case atStart => exact ⟨n, m, HN, HM, rfl, rfl, hG⟩
    case round =>
      obtain ⟨p, q, hp, hq, rfl, rfl, hg⟩ := hrel
      by_cases h0 : q = 0
      · subst h0
        have HE := Lib.hid (gcp_end p)
        go_wp2
        go_ret2
        exact ⟨by rw [← hg.out, HE.out]; rfl, HB.out⟩
      · have q0 : ¬ (q : Int) = 0 := by omega
        have HP := Lib.hid (show 0 < q by omega)
        have HG := Lib.hid (gcp_go (a := p) HP.out)
        have HL := Lib.hid (dv_rest_lt (a := p) 0 HP.out)
        go_wp2_with (go_at_call 48; refine (dividePolys_any p q _ hp.out HP.out hq.out).mono ?_; rintro e w' ⟨rfl, rfl⟩)
        go_round
        case rel => exact ⟨q, (dv q 0 p).2, hq, Lib.hid (by have := HL.out; have := hq.out; omega), rfl, rfl, Lib.hid (by rw [← HG.out]; exact hg.out)⟩
        case measure => have := HL.out; simp [intOf]; omega
theorem l02Gcd_any (n m : Nat) (w : World) (hn : n < 9223372036854775808) (hm : m < 9223372036854775808) :
    Calls Try.prog 53 #[.int .i64 n, .int .i64 m] w fun e w' => e = .returned (.int .i64 (gcp n m : Nat)) ∧ w = w' := by
  obtain ⟨G, hG⟩ : ∃ G, Hid (gcp n m = G) := ⟨_, Lib.hid rfl⟩
  rw [hG.out]
  have HN := Lib.hid hn
  have HM := Lib.hid hm
  clear hn hm
  go_enter Try.func53, Try.ntmps53
  go_wp2
  go_loop [0, 1] (fun x y => ∃ p q : Nat, Hid (p < 9223372036854775808) ∧ Hid (q < 9223372036854775808) ∧ x = .int .i64 p ∧ y = .int .i64 q ∧ Hid (gcp p q = G)) (fun _ y => (intOf y).toNat)
  case atStart => exact ⟨n, m, HN, HM, rfl, rfl, hG⟩
  case round =>
    obtain ⟨p, q, hp, hq, rfl, rfl, hg⟩ := hrel
    by_cases h0 : 0 < q
    · have HP := Lib.hid h0
      have HG := Lib.hid (gcp_go (a := p) HP.out)
      have HL := Lib.hid (dv_rest_lt (a := p) 0 HP.out)
      go_wp2_with (go_at_call 47; refine (l02Div_any p q _ hp.out HP.out hq.out).mono ?_; rintro e w' ⟨rfl, rfl⟩)
      go_round
      case rel => exact ⟨q, (dv q 0 p).2, hq, Lib.hid (by have := HL.out; have := hq.out; omega), rfl, rfl, Lib.hid (by rw [← HG.out]; exact hg.out)⟩
      case measure => have := HL.out; simp [intOf]; omega
    · have e : q = 0 := by omega
      subst e
      have HE := Lib.hid (gcp_end p)
      go_wp2
      go_ret
      exact ⟨by rw [← hg.out, HE.out]; rfl, rfl⟩
theorem sGcdPolys_any (a b : Int) (w : World) :
    Calls Try.prog 24 #[.int .i64 a, .int .i64 b] w fun e w' => e = .returned (.tuple #[.int .i64 (gcdV a b), .bool (gcdB a b)]) ∧ Below w.heap.size w w' := by
  cases h1 : plB a with
  | false =>
    have e : gcdB a b = false := by simp [gcdB, h1]
    rw [gcdV_no e, e]
    clear e
    go_enter Try.func24, Try.ntmps24
    go_wp2_with (go_at_call 37; refine (l02Poly_of h1 _).mono ?_; rintro e w' ⟨rfl, rfl⟩)
    go_ret2
    exact ⟨rfl, bw_refl _⟩
  | true =>
    cases h2 : plB b with
    | false =>
      have e : gcdB a b = false := by simp [gcdB, h2]
      rw [gcdV_no e, e]
      clear e
      go_enter Try.func24, Try.ntmps24
      go_wp2_with (go_at_call 37; (first | with_reducible refine (l02Poly_of h1 _).mono ?_ | with_reducible refine (l02Poly_of h2 _).mono ?_); rintro e w' ⟨rfl, rfl⟩)
      go_ret2
      exact ⟨rfl, bw_refl _⟩
    | true =>
      obtain ⟨n, rfl, hn⟩ := plB_nat h1
      obtain ⟨m, rfl, hm⟩ := plB_nat h2
      have e1 : gcdB n m = true := by simp [gcdB, h1, h2]
      have e2 : gcdV n m = ((gcp n m : Nat) : Int) := by simp only [gcdV, e1, if_true, Int.toNat_natCast]
      rw [e2, e1]
      have HN := Lib.hid (show n < 9223372036854775808 by omega)
      have HM := Lib.hid (show m < 9223372036854775808 by omega)
      clear e1 e2 hn hm
      go_enter Try.func24, Try.ntmps24
      go_wp2_with (first | (go_at_call 37; (first | with_reducible refine (l02Poly_of h1 _).mono ?_ | with_reducible refine (l02Poly_of h2 _).mono ?_); rintro e w' ⟨rfl, rfl⟩) | (go_at_call 53; refine (l02Gcd_any n m _ HN.out HM.out).mono ?_; rintro e w' ⟨rfl, rfl⟩))
      go_ret2
      exact ⟨rfl, bw_refl _⟩
end Go.Proofs.Ytkepnjdomlfpdaa

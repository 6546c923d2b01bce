/-
  Contracts of choose, l01Choose and both BinomialOf. Conditions: at most 60 things.
-/
import Derived.Test.YtifigkkghfjhpaaC1
import Derived.Test.YtifigkkghfjhpaaM4
import Derived.Test.YtifigkkghfjhpaaLst
import Derived.Test.YtifigkkghfjhpaaReg
import Derived.Test.YtifigkkghfjhpaaShelf
namespace Go.Proofs.Ytifigkkghfjhpaa
open Go.RowKit
set_option linter.unusedVariables false

theorem Div64_small (x y : Nat) (w : World) (hx : x < 18446744073709551616) (hy : 1 ≤ y) (hy2 : y < 18446744073709551616) :
    Calls Try.prog 81 #[.int .u64 0, .int .u64 x, .int .u64 y] w fun e w' => ∃ r, e = .returned (.tuple #[.int .u64 ((x / y : Nat) : Int), r]) ∧ Below w.heap.size w w' := by
  have y0 : ¬ (y : Int) = 0 := by omega
  have y1 : ¬ y = 0 := by omega
  have y2 : ¬ (y : Int) ≤ 0 := by omega
  have hd : x / y ≤ x := Nat.div_le_self x y
  have d1 : (x : Int).tdiv y = ((x / y : Nat) : Int) := rfl
  have d2 : (x : Int).tmod y = ((x % y : Nat) : Int) := rfl
  have hm := Nat.mod_le x y
  obtain ⟨q, hq⟩ : ∃ q, x / y = q := ⟨_, rfl⟩
  obtain ⟨r, hr⟩ : ∃ q, x % y = q := ⟨_, rfl⟩
  rw [hq] at d1 hd ⊢
  rw [hr] at d2 hm
  have u1 : IntKind.u64.wrap (q : Int) = q := IntWalk.u64_in _ (by omega)
  have u2 : IntKind.u64.wrap (r : Int) = r := IntWalk.u64_in _ (by omega)
  clear hq hr
  go_enter Try.func81, Try.ntmps81
  go_wp2
  go_quiet (fail)
  go_wp2
  go_ret2
  exact ⟨_, rfl, bw_drewN (bw_refl _) _⟩
theorem choose_any (n k M : Nat) (w : World) (hn : n ≤ 60) (hk : k ≤ n) (hM : (k ≤ n - k ∧ M = k) ∨ (n - k < k ∧ M = n - k)) :
    Calls Try.prog 68 #[.int .i64 n, .int .i64 k] w fun e w' => e = .returned (.int .i64 (bin n k : Nat)) ∧ Below w.heap.size w w' := by
  have hr : inR (k : Int) 0 n = true := inR_mk (by omega) (by omega)
  have hfin : bin n M = bin n k := by
    rcases hM with ⟨_, h⟩ | ⟨_, h⟩
    · rw [h]
    · have := bin_mirror (n - k) k
      rw [Nat.sub_add_cancel hk] at this
      rw [h, this]
  have HF := Lib.hid hfin
  have hM2 : 2 * M ≤ n := by omega
  have hmin : (k : Int) ≤ (n : Int) - k ∧ (M : Int) = k ∨ (n : Int) - k < k ∧ (M : Int) = (n : Int) - k := by omega
  have HM := Lib.hid hM
  clear hM hfin
  go_enter Try.func68, Try.ntmps68
  go_wp2_with (go_at_call 49; refine (inRange_of hr _).mono ?_; rintro e w' ⟨rfl, rfl⟩)
  clear hr
  go_loopw [5, 6] (fun o i wr => ∃ t : Nat, t ≤ M ∧ i = .int .i64 ((t : Int) + 1) ∧ o = .int .i64 ((bin n t : Nat) : Int) ∧ Hid (Below w.heap.size w wr)) (fun _ i _ => M + 1 - (intOf i).toNat)
  case atStart => exact ⟨0, by omega, by simp, by rw [bin_zero]; rfl, Lib.hid (bw_refl _)⟩
  case round =>
    obtain ⟨t, ht, rfl, rfl, hb⟩ := hrel
    by_cases hlt : t < M
    · have hs := bin_step (n := n) (i := t) (by omega) hn (by omega)
      have h0 := bin_le60 (n := n) t hn
      have h1 := bin_le60 (n := n) (t + 1) hn
      obtain ⟨b, hb0⟩ : ∃ b, Hid (bin n t = b) := ⟨_, Lib.hid rfl⟩
      obtain ⟨b1, hb1⟩ : ∃ b, Hid (bin n (t + 1) = b) := ⟨_, Lib.hid rfl⟩
      rw [hb0.out, hb1.out] at hs
      rw [hb0.out] at h0 ⊢
      rw [hb1.out] at h1
      have u0 : IntKind.u64.wrap (b : Int) = b := IntWalk.u64_in _ (by omega)
      have u1 : IntKind.i64.wrap (b1 : Int) = b1 := IntWalk.i64_in _ (by omega)
      have e : ((n : Int) - ((t : Int) + 1) + 1) = ((n - t : Nat) : Int) := by omega
      have e2 : ((t : Int) + 1) = ((t + 1 : Nat) : Int) := by omega
      have HE := Lib.hid e
      have HE2 := Lib.hid e2
      have d0 : b * (n - t) / 18446744073709551616 = 0 := Nat.div_eq_of_lt hs.2.1
      have d1 : b * (n - t) % 18446744073709551616 = b * (n - t) := Nat.mod_eq_of_lt hs.2.1
      have HD0 := Lib.hid d0
      have HD1 := Lib.hid d1
      have HS := Lib.hid hs
      clear e e2 d0 d1 hs
      go_wp2_with fail
      rw [HE.out]
      refine (Try.bits_Mul64 b (n - t) (by omega) (by omega) _).mono ?_
      rw [HD0.out, HD1.out]
      rintro e w1 ⟨rfl, rfl⟩
      obtain ⟨p, hp⟩ : ∃ p, Hid (b * (n - t) = p) := ⟨_, Lib.hid rfl⟩
      rw [hp.out] at HS ⊢
      go_wp2_with fail
      rw [HE2.out]
      refine (Div64_small p (t + 1) _ HS.out.2.1 (by omega) (by omega)).mono ?_
      rw [HS.out.2.2]
      rintro e w1 ⟨r, rfl, hbd⟩
      have HB := Lib.hid (bw_call hb.out hbd)
      clear hbd
      go_wp2
      go_roundw
      case rel => exact ⟨t + 1, by omega, by go_num, by rw [hb1.out], HB⟩
      case measure => simp [intOf]; omega
    · have hte : t = M := by omega
      subst hte
      go_wp2
      go_ret
      exact ⟨by rw [HF.out]; rfl, hb.out⟩
theorem choose_of {n k : Nat} (w : World) (hn : n ≤ 60) (hk : k ≤ n) : Calls Try.prog 68 #[.int .i64 n, .int .i64 k] w fun e w' => e = .returned (.int .i64 (bin n k : Nat)) ∧ Below w.heap.size w w' := by
  by_cases h : k ≤ n - k
  · exact choose_any n k k w hn hk (.inl ⟨h, rfl⟩)
  · exact choose_any n k (n - k) w hn hk (.inr ⟨by omega, rfl⟩)
def binB (n k : Int) : Bool := inR n 0 60 && inR k 0 n
def binV (n k : Int) : Int := if binB n k = true then ((bin n.toNat k.toNat : Nat) : Int) else 0
theorem binV_no {n k : Int} (h : binB n k = false) : binV n k = 0 := by simp [binV, h]
theorem BinomialOf_any (n k : Int) (w : World) :
    Calls Try.prog 38 #[.int .i64 n, .int .i64 k] w fun e w' => e = .returned (.tuple #[.int .i64 (binV n k), .bool (binB n k)]) ∧ Below w.heap.size w w' := by
  cases h1 : inR n 0 60 with
  | false =>
    have e : binB n k = false := by simp [binB, h1]
    rw [binV_no e, e]
    clear e
    go_enter Try.func38, Try.ntmps38
    go_wp2_with (go_at_call 49; refine (inRange_of h1 _).mono ?_; rintro e w' ⟨rfl, rfl⟩)
    go_ret2
    exact ⟨rfl, bw_refl _⟩
  | true =>
    cases h2 : inR k 0 n with
    | false =>
      have e : binB n k = false := by simp [binB, h2]
      rw [binV_no e, e]
      clear e
      go_enter Try.func38, Try.ntmps38
      go_wp2_with (go_at_call 49; (first | with_reducible refine (inRange_of h1 _).mono ?_ | with_reducible refine (inRange_of h2 _).mono ?_); rintro e w' ⟨rfl, rfl⟩)
      go_ret2
      exact ⟨rfl, bw_refl _⟩
    | true =>
      have b1 := inR_true h1
      have b2 := inR_true h2
      obtain ⟨N, rfl⟩ := Int.eq_ofNat_of_zero_le b1.1
      obtain ⟨K, rfl⟩ := Int.eq_ofNat_of_zero_le b2.1
      have e : binB N K = true := by simp [binB, h1, h2]
      have e2 : binV N K = ((bin N K : Nat) : Int) := by simp [binV, e]
      rw [e2, e]
      clear e e2
      go_enter Try.func38, Try.ntmps38
      go_wp2_with (first | (go_at_call 49; (first | with_reducible refine (inRange_of h1 _).mono ?_ | with_reducible refine (inRange_of h2 _).mono ?_); rintro e w' ⟨rfl, rfl⟩) | (go_at_call 68; refine (choose_of _ (by omega) (by omega)).mono ?_; rintro e w1 ⟨rfl, hb⟩))
      go_ret2
      exact ⟨rfl, hb⟩
theorem OwnI.rebase {k : IntKind} {base base' e : Nat} {W W' w : World} {v : Value} {xs : List Int} (h : OwnI k base' e W' w v xs) (hb : base ≤ base') (hB : Below base W w) : OwnI k base e W w v xs := by
  refine ⟨⟨h.1.1, ?_⟩, hB, by have := h.2.2.1; omega, h.2.2.2⟩
  rcases h.1.2 with hn | ⟨g, cap, cur, hv, hlo, r⟩
  · exact .inl hn
  · exact .inr ⟨g, cap, cur, hv, by omega, r⟩
/-- '[]T{z}'. -/
theorem OwnI.made1 {k : IntKind} {base e : Nat} {W w : World} (z : Int) (hb : Below base W w) (hB : base ≤ w.heap.size) : OwnI k base e W (w.alloc (.cells #[.int k z] e)) (.slice (some ⟨w.heap.size, 0, none⟩) 1 1) [z] :=
  ⟨World.ownsRow_lit (base := base) (e := e) (size := 1) w #[.int k z] 1 hB (by decide) rfl, hb.alloc hB _, by simp; omega, _, _, rfl⟩
set_option maxRecDepth 100000 in
theorem l01Choose_any (n k : Nat) (w : World) (hn : n ≤ 60) (hk : k ≤ n) :
    Calls Try.prog 67 #[.int .i64 n, .int .i64 k] w fun e w' => e = .returned (.int .i64 (bin n k : Nat)) ∧ Below w.heap.size w w' := by
  go_enter Try.func67, Try.ntmps67
  go_wp2
  go_loopw [5, 6] (fun v i wr => ∃ t : Nat, t ≤ n ∧ i = .int .i64 t ∧ Hid (OwnI .i64 w.heap.size 2 w wr v (prk t (t + 1)))) (fun _ i _ => n - (intOf i).toNat)
  case atStart => exact ⟨0, Nat.zero_le _, rfl, Lib.hid (by rw [prk_one]; exact OwnI.made1 1 (bw_refl _) (Nat.le_refl _))⟩
  case round =>
    obtain ⟨t, ht, rfl, ho⟩ := hrel
    obtain ⟨g, cap, rfl, hg1, hg2, _, _, hc, hf⟩ := ho.out.cell
    rw [prk_len] at hc ⊢
    have HC := Lib.hid hc
    have HF := Lib.hid hf
    clear hc hf
    by_cases hlt : t < n
    · go_wp2
      go_loopw [7, 8] (fun v j wq => ∃ s : Nat, s ≤ t ∧ j = .int .i64 ((s : Int) + 1) ∧ Hid (OwnI .i64 wr.heap.size 2 wr wq v (prk (t + 1) (s + 1)))) (fun _ j _ => t + 1 - (intOf j).toNat)
      case atStart => exact ⟨0, Nat.zero_le _, by simp, Lib.hid (by rw [prk_one]; exact OwnI.made1 1 (bw_refl _) (Nat.le_refl _))⟩
      case round =>
        obtain ⟨s, hs, rfl, hi⟩ := hrel
        by_cases hst : s < t
        · have q0 := (hi.out.below.cell (p := ⟨g, s, none⟩) hg2).trans (HC.out s (by omega))
          have q1 := (hi.out.below.cell (p := ⟨g, s + 1, none⟩) hg2).trans (HC.out (s + 1) (by omega))
          rw [prk_get t (by omega)] at q0 q1
          have b0 := bin_pair t s
          have b1 : 2 ^ t ≤ 2 ^ 60 := Nat.pow_le_pow_right (by decide) (by omega)
          have b2 : (2 : Nat) ^ 60 = 1152921504606846976 := by decide
          rw [b2] at b1
          have HS := Lib.hid (prk_succ (t + 1) (s + 1))
          have HSS := Lib.hid (bin_ss t s)
          obtain ⟨x, hx⟩ : ∃ x, Hid (bin t s = x) := ⟨_, Lib.hid rfl⟩
          obtain ⟨y, hy⟩ : ∃ x, Hid (bin t (s + 1) = x) := ⟨_, Lib.hid rfl⟩
          rw [hx.out] at q0 b0 HSS
          rw [hy.out] at q1 b0 HSS
          obtain ⟨z, hz⟩ : ∃ x, Hid (2 ^ t = x) := ⟨_, Lib.hid rfl⟩
          rw [hz.out] at b0 b1
          clear b2
          have w1 : IntKind.i64.wrap ((x : Int) + y) = (x : Int) + y := IntWalk.i64_in _ (by omega)
          have w2 : IntKind.i64.wrap (s : Int) = s := IntWalk.i64_in _ (by omega)
          have r0 : (0 : Int) ≤ (s : Int) := by omega
          have r1 : (s : Int) < (t : Int) + 1 := by omega
          have r2 : (0 : Int) ≤ (s : Int) + 1 := by omega
          have r3 : (s : Int) + 1 < (t : Int) + 1 := by omega
          have t1 : ((s : Int) + 1).toNat = s + 1 := by omega
          have HL := Lib.hid (show (prk (t + 1) (s + 1)).length < 1000000000000 by rw [prk_len]; omega)
          go_wp2
          go_region_law (refine stepApp tI rfl (.tmp 22) (.tmp 33) rfl (by simp [Act.eval]) (hi.out.drewN 1) (by simp [Act.eval]) (by decide) HL.out ?_; intro v' w3 hown1)
          all_goals
            go_wp2
            go_roundw
            case rel => exact ⟨s + 1, by omega, by go_num, Lib.hid (by rw [HS.out, HSS.out, Int.natCast_add]; exact hown1)⟩
            case measure => simp [intOf]; omega
        · have hse : s = t := by omega
          subst hse
          have HL := Lib.hid (show (prk (s + 1) (s + 1)).length < 1000000000000 by rw [prk_len]; omega)
          have HS := Lib.hid (prk_succ (s + 1) (s + 1))
          have HSS := Lib.hid (bin_self (s + 1))
          have hBw := Lib.hid ho.out.below
          have hsz := ho.out.2.2.1
          go_wp2_with (at_builtin; refine wpApp tI rfl _ _ rfl rfl hi.out rfl (by decide) HL.out ?_; intro v' w4 hown1)
          have HO1 : Hid (OwnI .i64 w.heap.size 2 w w4 v' (prk (s + 1) (s + 1 + 1))) := Lib.hid (by
            rw [HS.out, HSS.out]
            exact hown1.rebase hsz (hBw.out.trans (hown1.below.mono hsz)))
          clear hown1
          go_roundw
          case rel => exact ⟨s + 1, by omega, by go_num, HO1⟩
          case measure => simp [intOf]; omega
    · have hte : t = n := by omega
      subst hte
      have q0 := HC.out k (by omega)
      rw [prk_get t (by omega)] at q0
      have r0 : (0 : Int) ≤ (k : Int) := by omega
      have r1 : (k : Int) < (t : Int) + 1 := by omega
      have hBw := Lib.hid ho.out.below
      go_wp2
      go_ret
      exact ⟨rfl, hBw.out⟩
theorem sBinomialOf_any (n k : Int) (w : World) :
    Calls Try.prog 37 #[.int .i64 n, .int .i64 k] w fun e w' => e = .returned (.tuple #[.int .i64 (binV n k), .bool (binB n k)]) ∧ Below w.heap.size w w' := by
  cases h1 : inR n 0 60 with
  | false =>
    have e : binB n k = false := by simp [binB, h1]
    rw [binV_no e, e]
    clear e
    go_enter Try.func37, Try.ntmps37
    go_wp2_with (go_at_call 47; refine (l00In_of h1 _).mono ?_; rintro e w' ⟨rfl, rfl⟩)
    go_ret2
    exact ⟨rfl, bw_refl _⟩
  | true =>
    cases h2 : inR k 0 n with
    | false =>
      have e : binB n k = false := by simp [binB, h2]
      rw [binV_no e, e]
      clear e
      go_enter Try.func37, Try.ntmps37
      go_wp2_with (go_at_call 47; (first | with_reducible refine (l00In_of h1 _).mono ?_ | with_reducible refine (l00In_of h2 _).mono ?_); rintro e w' ⟨rfl, rfl⟩)
      go_ret2
      exact ⟨rfl, bw_refl _⟩
    | true =>
      have b1 := inR_true h1
      have b2 := inR_true h2
      obtain ⟨N, rfl⟩ := Int.eq_ofNat_of_zero_le b1.1
      obtain ⟨K, rfl⟩ := Int.eq_ofNat_of_zero_le b2.1
      have e : binB N K = true := by simp [binB, h1, h2]
      have e2 : binV N K = ((bin N K : Nat) : Int) := by simp [binV, e]
      rw [e2, e]
      clear e e2
      go_enter Try.func37, Try.ntmps37
      go_wp2_with (first | (go_at_call 47; (first | with_reducible refine (l00In_of h1 _).mono ?_ | with_reducible refine (l00In_of h2 _).mono ?_); rintro e w' ⟨rfl, rfl⟩) | (go_at_call 67; refine (l01Choose_any N K _ (by omega) (by omega)).mono ?_; rintro e w1 ⟨rfl, hb⟩))
      go_ret2
      exact ⟨rfl, hb⟩
end Go.Proofs.Ytifigkkghfjhpaa

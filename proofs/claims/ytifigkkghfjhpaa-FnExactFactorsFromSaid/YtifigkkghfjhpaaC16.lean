/-
  Contracts of differences and of both ModulusFrom. Conditions: the list is one of the law's own, with at most 2^20 elements.
-/
import Derived.Test.YtifigkkghfjhpaaC15
import Derived.Test.YtifigkkghfjhpaaC7
import Derived.Test.YtifigkkghfjhpaaReg
namespace Go.Proofs.Ytifigkkghfjhpaa
open Go.RowKit
set_option linter.unusedVariables false

/-- The first k differences of neighbours. -/
def dfk (xs : List Int) (k : Nat) : List Int := (List.range k).map fun j => xs.getD (j + 1) 0 - xs.getD j 0
def dfs (xs : List Int) : List Int := dfk xs (xs.length - 1)
theorem dfk_len (xs : List Int) (k : Nat) : (dfk xs k).length = k := by simp [dfk]
theorem dfk_succ (xs : List Int) (k : Nat) : dfk xs (k + 1) = dfk xs k ++ [xs.getD (k + 1) 0 - xs.getD k 0] := by simp [dfk, List.range_succ]
theorem dfk_get (xs : List Int) {k j : Nat} (h : j < k) : (dfk xs k).getD j 0 = xs.getD (j + 1) 0 - xs.getD j 0 := by simp [dfk, List.getD, h]
theorem dfs_bd {xs : List Int} (h : allB xs 0 99999 = true) {j : Nat} (hj : j + 1 < xs.length) : -99999 ≤ (dfs xs).getD j 0 ∧ (dfs xs).getD j 0 ≤ 99999 := by
  rw [dfs, dfk_get xs (by omega)]
  have h1 := allB_get h hj
  have h2 := allB_get h (k := j) (by omega)
  omega
theorem outB_true {xs : List Int} (h : outB xs = true) : 3 ≤ xs.length ∧ xs.length ≤ 64 ∧ allB xs 0 99999 = true := by
  simp only [outB, Bool.and_eq_true] at h
  have := inR_true h.1
  exact ⟨by omega, by omega, h.2⟩

theorem differences_any (xs : List Int) (a : Option Addr) (c base : Nat) (w : World) (h : HasL base w a c xs) (hx : 0 < xs.length) (hx2 : xs.length < 1000000) (hb : allB xs 0 99999 = true) :
    Calls Try.prog 65 #[.slice a xs.length c] w (RetL1 (dfs xs) w) := by
  have HB := Lib.hid hb
  have H := Lib.hid h
  clear h hb
  obtain ⟨g, rfl, _, hg, _, _⟩ := H.out.cells hx
  go_enter Try.func65, Try.ntmps65
  go_wp2
  go_loopw [3, 4] (fun v i wr => ∃ k : Nat, k + 1 ≤ xs.length ∧ i = .int .i64 ((k : Int) + 1) ∧ Hid (OwnI .i64 w.heap.size 2 w wr v (dfk xs k))) (fun _ i _ => xs.length - (intOf i).toNat)
  case atStart => exact ⟨0, by omega, by simp, Lib.hid (OwnI.made (bw_refl _) (Nat.le_refl _))⟩
  case round =>
    obtain ⟨k, hk, rfl, ho⟩ := hrel
    by_cases hlt : k + 1 < xs.length
    · obtain ⟨g', hge, _, _, hc, hf⟩ := (H.out.later ho.out.below).cells (by omega)
      simp only [Option.some.injEq, Addr.mk.injEq, and_true] at hge
      subst hge
      have q0 := hc k (by omega)
      have q1 := hc (k + 1) hlt
      have f0 := hf k
      have f1 := hf (k + 1)
      clear hc hf
      have B0 := allB_get HB.out (k := k) (by omega)
      have B1 := allB_get HB.out hlt
      have HS := Lib.hid (dfk_succ xs k)
      obtain ⟨x, hx1⟩ : ∃ x, Hid (xs.getD (k + 1) 0 = x) := ⟨_, Lib.hid rfl⟩
      obtain ⟨y, hy1⟩ : ∃ y, Hid (xs.getD k 0 = y) := ⟨_, Lib.hid rfl⟩
      rw [hx1.out] at B1 q1
      rw [hy1.out] at B0 q0
      have HL := Lib.hid (show (dfk xs k).length < 1000000000000 by rw [dfk_len]; omega)
      have w1 : IntKind.i64.wrap (x - y) = x - y := IntWalk.i64_in _ (by omega)
      have w2 : IntKind.i64.wrap (k : Int) = k := IntWalk.i64_in _ (by omega)
      have r0 : (0 : Int) ≤ (k : Int) := by omega
      have r1 : (k : Int) < (xs.length : Int) := by omega
      have r2 : (0 : Int) ≤ (k : Int) + 1 := by omega
      have r3 : (k : Int) + 1 < (xs.length : Int) := by omega
      go_wp2
      go_region_law (refine stepApp tI rfl (.tmp 12) (.tmp 23) rfl (by simp [Act.eval]) (ho.out.drewN 1) (by simp [Act.eval]) (by decide) HL.out ?_; intro v' w3 hown1)
      all_goals
        go_wp2
        go_roundw
        case rel => exact ⟨k + 1, by omega, by go_num, Lib.hid (by rw [HS.out, hx1.out, hy1.out]; exact hown1)⟩
        case measure => simp [intOf]; omega
    · have hke : k = xs.length - 1 := by omega
      subst hke
      obtain ⟨a', c', hv, hh⟩ := ho.out.hasL
      have HW := Lib.hid ho.out.below
      have HH := Lib.hid hh
      have HV := Lib.hid hv
      clear hh hv
      go_wp2
      go_ret
      exact ⟨a', c', by rw [← show dfk xs (xs.length - 1) = dfs xs from rfl, ← HV.out]; rfl, HH.out, HW.out⟩

/-- The common divisor of the first k numbers of ModulusFrom. -/
def mg (d : List Int) : Nat → Int
  | 0 => 0
  | k + 1 => gcdI (mg d k) (absI (d.getD (k + 2) 0 * d.getD k 0 - d.getD (k + 1) 0 * d.getD (k + 1) 0))
theorem prod_bd {p q M : Int} (hp : -M ≤ p ∧ p ≤ M) (hq : -M ≤ q ∧ q ≤ M) : -(M * M) ≤ p * q ∧ p * q ≤ M * M := by
  have h1 : (p * q).natAbs = p.natAbs * q.natAbs := Int.natAbs_mul p q
  have h2 : p.natAbs * q.natAbs ≤ M.toNat * M.toNat := Nat.mul_le_mul (by omega) (by omega)
  have h3 : ((M.toNat * M.toNat : Nat) : Int) = M * M := by
    rw [Int.natCast_mul, Int.toNat_of_nonneg (by omega)]
  omega
theorem gcdI_max {a b M : Int} (ha : 0 ≤ a ∧ a ≤ M) (hb : 0 ≤ b ∧ b ≤ M) : 0 ≤ gcdI a b ∧ gcdI a b ≤ M := by
  refine ⟨gcdI_nonneg _ _, ?_⟩
  by_cases h : 0 < b
  · have := (gcdI_le ha.1 h).2; omega
  · have e : b = 0 := by omega
    subst e
    rw [gcdI_zero ha.1]; omega
theorem mt_bd {d : List Int} {n : Nat} (h : ∀ j, j < n → -99999 ≤ d.getD j 0 ∧ d.getD j 0 ≤ 99999) {k : Nat} (hk : k + 2 < n) :
    -19999600002 ≤ d.getD (k + 2) 0 * d.getD k 0 - d.getD (k + 1) 0 * d.getD (k + 1) 0 ∧ d.getD (k + 2) 0 * d.getD k 0 - d.getD (k + 1) 0 * d.getD (k + 1) 0 ≤ 19999600002 := by
  have h1 := prod_bd (h (k + 2) hk) (h k (by omega))
  have h2 := prod_bd (h (k + 1) (by omega)) (h (k + 1) (by omega))
  omega
theorem mg_bd {d : List Int} {n : Nat} (h : ∀ j, j < n → -99999 ≤ d.getD j 0 ∧ d.getD j 0 ≤ 99999) : ∀ k, k + 1 < n → 0 ≤ mg d k ∧ mg d k ≤ 19999600002
  | 0, _ => by simp [mg]
  | k + 1, hk => by
    have h1 := mg_bd h k (by omega)
    have h2 := mt_bd h (k := k) hk
    have h3 := absI_nonneg (d.getD (k + 2) 0 * d.getD k 0 - d.getD (k + 1) 0 * d.getD (k + 1) 0)
    have h4 := absI_le h2.1 h2.2
    exact gcdI_max h1 ⟨h3, h4⟩
def mfromB (xs : List Int) : Bool := outB xs && decide (4 ≤ xs.length)
def mfromV (xs : List Int) : Int := if mfromB xs = true then mg (dfs xs) (xs.length - 3) else 0

theorem ModulusFrom_any (xs : List Int) (a : Option Addr) (c base : Nat) (w : World) (h : HasL base w a c xs) (hx : xs.length < 1000000000000) :
    Calls Try.prog 36 #[.slice a xs.length c] w fun e w' => e = .returned (.tuple #[.int .i64 (mfromV xs), .bool (!(mfromV xs == 0))]) ∧ Below w.heap.size w w' := by
  cases h1 : outB xs with
  | false =>
    have e1 : mfromV xs = 0 := by simp [mfromV, mfromB, h1]
    rw [e1]; clear e1
    have H := Lib.hid h
    clear h
    go_enter Try.func36, Try.ntmps36
    go_wp2_with (go_at_call 63; refine (isOutputs_of h1 H.out hx).mono ?_; rintro e w1 ⟨rfl, hb⟩)
    go_ret2
    exact ⟨rfl, hb⟩
  | true =>
    have h2 := outB_true h1
    have HB := Lib.hid h2.2.2
    have l1 := h2.1
    have l2 := h2.2.1
    clear h2
    have H := Lib.hid h
    clear h
    by_cases h4 : 4 ≤ xs.length
    · have e1 : mfromV xs = mg (dfs xs) (xs.length - 3) := by simp [mfromV, mfromB, h1, h4]
      obtain ⟨L, hL⟩ : ∃ L, xs.length = L + 3 := ⟨xs.length - 3, by omega⟩
      have hL3 : xs.length - 3 = L := by omega
      rw [e1, hL3]; clear e1 hL3
      have lL : L ≤ 61 := by omega
      have KL := Lib.hid hL
      have HD : Hid (∀ j, j < L + 2 → -99999 ≤ (dfs xs).getD j 0 ∧ (dfs xs).getD j 0 ≤ 99999) := Lib.hid fun j hj => dfs_bd HB.out (by omega)
      have lD : (dfs xs).length = L + 2 := by rw [dfs, dfk_len]; omega
      obtain ⟨d, hd⟩ : ∃ d, Hid (dfs xs = d) := ⟨_, Lib.hid rfl⟩
      rw [hd.out] at lD HD ⊢
      have LD := Lib.hid lD
      clear hL lD
      go_enter Try.func36, Try.ntmps36
      go_wp2_with (go_at_call 63; refine (isOutputs_of h1 H.out hx).mono ?_; rintro e w1 ⟨rfl, hb⟩)
      refine (differences_any xs a c base _ (H.out.later hb) (by omega) (by omega) HB.out).mono ?_
      rw [hd.out]
      rintro e w2 ⟨a2, c2, rfl, hl, hb2⟩
      have HW := Lib.hid (hb.trans (hb2.mono hb.size))
      clear hb hb2
      obtain ⟨g, rfl, _, hg, hc, hf⟩ := hl.cells (by rw [LD.out]; omega)
      have HC := Lib.hid hc
      have HF := Lib.hid hf
      clear hc hf hl
      rw [LD.out]
      rw [LD.out] at HC
      clear H LD
      go_wp2
      go_loopw [5, 6] (fun s i wr => ∃ k : Nat, k ≤ L ∧ i = .int .i64 k ∧ s = .int .i64 (mg d k) ∧ ∃ n, wr = w2.drewN n) (fun _ i _ => L - (intOf i).toNat)
      case atStart => exact ⟨0, Nat.zero_le _, rfl, rfl, 0, rfl⟩
      case round =>
        obtain ⟨k, hk, rfl, rfl, n, rfl⟩ := hrel
        by_cases hlt : k < L
        · have q0 := HC.out k (by omega)
          have q1 := HC.out (k + 1) (by omega)
          have q2 := HC.out (k + 2) (by omega)
          have B := mt_bd HD.out (k := k) (by omega)
          have B0 := prod_bd (HD.out (k + 2) (by omega)) (HD.out k (by omega))
          have B1 := prod_bd (HD.out (k + 1) (by omega)) (HD.out (k + 1) (by omega))
          have G := mg_bd HD.out k (by omega)
          have HS := Lib.hid (show mg d (k + 1) = gcdI (mg d k) (absI (d.getD (k + 2) 0 * d.getD k 0 - d.getD (k + 1) 0 * d.getD (k + 1) 0)) from rfl)
          obtain ⟨p, hp⟩ : ∃ x, Hid (d.getD (k + 2) 0 = x) := ⟨_, Lib.hid rfl⟩
          obtain ⟨q, hq⟩ : ∃ x, Hid (d.getD k 0 = x) := ⟨_, Lib.hid rfl⟩
          obtain ⟨r, hr⟩ : ∃ x, Hid (d.getD (k + 1) 0 = x) := ⟨_, Lib.hid rfl⟩
          obtain ⟨s, hs⟩ : ∃ x, Hid (mg d k = x) := ⟨_, Lib.hid rfl⟩
          rw [hp.out, hq.out, hr.out] at B HS
          rw [hp.out, hq.out] at B0
          rw [hr.out] at B1
          rw [hp.out] at q2
          rw [hq.out] at q0
          rw [hr.out] at q1
          rw [hs.out] at G HS ⊢
          have w1 : IntKind.i64.wrap (p * q) = p * q := IntWalk.i64_in _ (by omega)
          have w2 : IntKind.i64.wrap (r * r) = r * r := IntWalk.i64_in _ (by omega)
          have w3 : IntKind.i64.wrap (p * q - r * r) = p * q - r * r := IntWalk.i64_in _ (by omega)
          have w4 : IntKind.i64.wrap ((k : Int) + 1) = (k : Int) + 1 := IntWalk.i64_in _ (by omega)
          have w5 : IntKind.i64.wrap ((k : Int) + 2) = (k : Int) + 2 := IntWalk.i64_in _ (by omega)
          have r0 : (0 : Int) ≤ (k : Int) := by omega
          have r1 : (k : Int) < (L : Int) + 2 := by omega
          have r2 : (0 : Int) ≤ (k : Int) + 1 := by omega
          have r3 : (k : Int) + 1 < (L : Int) + 2 := by omega
          have r4 : (0 : Int) ≤ (k : Int) + 2 := by omega
          have r5 : (k : Int) + 2 < (L : Int) + 2 := by omega
          have t1 : ((k : Int) + 1).toNat = k + 1 := by omega
          have t2 : ((k : Int) + 2).toNat = k + 2 := by omega
          have A0 := absI_nonneg (p * q - r * r)
          have A1 := absI_le B.1 B.2
          have A2 : absI (p * q - r * r) ≤ 9223372036854775807 := by omega
          have G1 : s ≤ 9223372036854775807 := by omega
          have S0 : -1000000000000000000 ≤ p * q - r * r := by omega
          have S1 : p * q - r * r ≤ 1000000000000000000 := by omega
          go_wp2_with fail
          go_quiet (first | (go_at_call 51; exact quiet_add_left (size_any (p * q - r * r) _ S0 S1)) | (go_at_call 50; exact quiet_add (divisor_any s (absI (p * q - r * r)) _ G.1 G1 A0 A2)))
          go_wp2
          go_roundw
          case rel => exact ⟨k + 1, by omega, by go_num, by rw [HS.out], _, rfl⟩
          case measure => simp [intOf]; omega
        · have hke : k = L := by omega
          subst hke
          go_wp2
          go_ret2
          exact ⟨rfl, bw_drewN HW.out _⟩
    · have e1 : mfromV xs = 0 := by simp [mfromV, mfromB, h4]
      rw [e1]; clear e1
      go_enter Try.func36, Try.ntmps36
      go_wp2_with (go_at_call 63; refine (isOutputs_of h1 H.out hx).mono ?_; rintro e w1 ⟨rfl, hb⟩)
      go_ret2
      exact ⟨rfl, hb⟩
theorem sModulusFrom_any (xs : List Int) (a : Option Addr) (c base : Nat) (w : World) (h : HasL base w a c xs) (hx : xs.length < 1000000000000) :
    Calls Try.prog 35 #[.slice a xs.length c] w fun e w' => e = .returned (.tuple #[.int .i64 (mfromV xs), .bool (!(mfromV xs == 0))]) ∧ Below w.heap.size w w' := by
  cases h1 : outB xs with
  | false =>
    have e1 : mfromV xs = 0 := by simp [mfromV, mfromB, h1]
    rw [e1]; clear e1
    have H := Lib.hid h
    clear h
    go_enter Try.func35, Try.ntmps35
    go_wp2_with (go_at_call 62; refine (l03Outputs_of h1 H.out hx).mono ?_; rintro e w1 ⟨rfl, rfl⟩)
    go_ret2
    exact ⟨rfl, bw_refl _⟩
  | true =>
    have h2 := outB_true h1
    have HB := Lib.hid h2.2.2
    have l1 := h2.1
    have l2 := h2.2.1
    clear h2
    have H := Lib.hid h
    clear h
    by_cases h4 : 4 ≤ xs.length
    · have e1 : mfromV xs = mg (dfs xs) (xs.length - 3) := by simp [mfromV, mfromB, h1, h4]
      obtain ⟨L, hL⟩ : ∃ L, xs.length = L + 3 := ⟨xs.length - 3, by omega⟩
      have hL3 : xs.length - 3 = L := by omega
      rw [e1, hL3]; clear e1 hL3
      have lL : L ≤ 61 := by omega
      have KL := Lib.hid hL
      have HD : Hid (∀ j, j < L + 2 → -99999 ≤ (dfs xs).getD j 0 ∧ (dfs xs).getD j 0 ≤ 99999) := Lib.hid fun j hj => dfs_bd HB.out (by omega)
      have lD : (dfs xs).length = L + 2 := by rw [dfs, dfk_len]; omega
      obtain ⟨d, hd⟩ : ∃ d, Hid (dfs xs = d) := ⟨_, Lib.hid rfl⟩
      rw [hd.out] at lD HD ⊢
      have LD := Lib.hid lD
      clear hL lD
      obtain ⟨g, rfl, _, hg, _, _⟩ := H.out.cells (by omega)
      go_enter Try.func35, Try.ntmps35
      go_wp2_with (go_at_call 62; refine (l03Outputs_of h1 H.out hx).mono ?_; rintro e w1 ⟨rfl, rfl⟩)
      go_loopw [4, 5] (fun v i wr => ∃ k : Nat, k + 1 ≤ xs.length ∧ i = .int .i64 ((k : Int) + 1) ∧ Hid (OwnI .i64 w.heap.size 2 w wr v (dfk xs k))) (fun _ i _ => xs.length - (intOf i).toNat)
      case atStart => exact ⟨0, by omega, by simp, Lib.hid (OwnI.made (bw_refl _) (Nat.le_refl _))⟩
      case round =>
        obtain ⟨k, hk, rfl, ho⟩ := hrel
        by_cases hlt : k + 1 < xs.length
        · obtain ⟨g', hge, _, _, hc, hf⟩ := (H.out.later ho.out.below).cells (by omega)
          simp only [Option.some.injEq, Addr.mk.injEq, and_true] at hge
          subst hge
          have q0 := hc k (by omega)
          have q1 := hc (k + 1) hlt
          have f0 := hf k
          have f1 := hf (k + 1)
          clear hc hf
          have B0 := allB_get HB.out (k := k) (by omega)
          have B1 := allB_get HB.out hlt
          have HS := Lib.hid (dfk_succ xs k)
          obtain ⟨x, hx1⟩ : ∃ x, Hid (xs.getD (k + 1) 0 = x) := ⟨_, Lib.hid rfl⟩
          obtain ⟨y, hy1⟩ : ∃ y, Hid (xs.getD k 0 = y) := ⟨_, Lib.hid rfl⟩
          rw [hx1.out] at B1 q1
          rw [hy1.out] at B0 q0
          have HL := Lib.hid (show (dfk xs k).length < 1000000000000 by rw [dfk_len]; omega)
          have w1 : IntKind.i64.wrap (x - y) = x - y := IntWalk.i64_in _ (by omega)
          have w2 : IntKind.i64.wrap (k : Int) = k := IntWalk.i64_in _ (by omega)
          have r0 : (0 : Int) ≤ (k : Int) := by omega
          have r1 : (k : Int) < (xs.length : Int) := by omega
          have r2 : (0 : Int) ≤ (k : Int) + 1 := by omega
          have r3 : (k : Int) + 1 < (xs.length : Int) := by omega
          go_wp2
          go_region_law (refine stepApp tI rfl (.tmp 24) (.tmp 35) rfl (by simp [Act.eval]) (ho.out.drewN 1) (by simp [Act.eval]) (by decide) HL.out ?_; intro v' w3 hown1)
          all_goals
            go_wp2
            go_roundw
            case rel => exact ⟨k + 1, by omega, by go_num, Lib.hid (by rw [HS.out, hx1.out, hy1.out]; exact hown1)⟩
            case measure => simp [intOf]; omega
        · have hke : k = xs.length - 1 := by omega
          subst hke
          obtain ⟨a', c', hv, hh⟩ := ho.out.hasL
          have HW := Lib.hid ho.out.below
          have HV := Lib.hid hv
          have hh2 : HasL w.heap.size wr a' c' d := by
            rw [← hd.out, dfs]; exact hh
          have hl2 : (dfk xs (xs.length - 1)).length = L + 2 := by rw [← LD.out, ← hd.out, dfs]
          obtain ⟨g2, rfl, _, hg2, hc, hf⟩ := hh2.cells (by rw [LD.out]; omega)
          have HC := Lib.hid hc
          have HF := Lib.hid hf
          rw [LD.out] at HC
          rw [HV.out, hl2]
          clear hh hh2 hc hf hl2 hv HV H LD
          go_wp2
          go_loopw [6, 7] (fun s i wq => ∃ k : Nat, k ≤ L ∧ i = .int .i64 k ∧ s = .int .i64 (mg d k) ∧ ∃ n, wq = wr.drewN n) (fun _ i _ => L - (intOf i).toNat)
          case atStart => exact ⟨0, Nat.zero_le _, rfl, rfl, 0, rfl⟩
          case round =>
            obtain ⟨k, hk, rfl, rfl, n, rfl⟩ := hrel
            by_cases hlt : k < L
            · have q0 := HC.out k (by omega)
              have q1 := HC.out (k + 1) (by omega)
              have q2 := HC.out (k + 2) (by omega)
              have B := mt_bd HD.out (k := k) (by omega)
              have B0 := prod_bd (HD.out (k + 2) (by omega)) (HD.out k (by omega))
              have B1 := prod_bd (HD.out (k + 1) (by omega)) (HD.out (k + 1) (by omega))
              have G := mg_bd HD.out k (by omega)
              have HS := Lib.hid (show mg d (k + 1) = gcdI (mg d k) (absI (d.getD (k + 2) 0 * d.getD k 0 - d.getD (k + 1) 0 * d.getD (k + 1) 0)) from rfl)
              obtain ⟨p, hp⟩ : ∃ x, Hid (d.getD (k + 2) 0 = x) := ⟨_, Lib.hid rfl⟩
              obtain ⟨q, hq⟩ : ∃ x, Hid (d.getD k 0 = x) := ⟨_, Lib.hid rfl⟩
              obtain ⟨r, hr⟩ : ∃ x, Hid (d.getD (k + 1) 0 = x) := ⟨_, Lib.hid rfl⟩
              obtain ⟨s, hs⟩ : ∃ x, Hid (mg d k = x) := ⟨_, Lib.hid rfl⟩
              rw [hp.out, hq.out, hr.out] at B HS
              rw [hp.out, hq.out] at B0
              rw [hr.out] at B1
              rw [hp.out] at q2
              rw [hq.out] at q0
              rw [hr.out] at q1
              rw [hs.out] at G HS ⊢
              have w1 : IntKind.i64.wrap (p * q) = p * q := IntWalk.i64_in _ (by omega)
              have w2 : IntKind.i64.wrap (r * r) = r * r := IntWalk.i64_in _ (by omega)
              have w3 : IntKind.i64.wrap (p * q - r * r) = p * q - r * r := IntWalk.i64_in _ (by omega)
              have w4 : IntKind.i64.wrap ((k : Int) + 1) = (k : Int) + 1 := IntWalk.i64_in _ (by omega)
              have w5 : IntKind.i64.wrap ((k : Int) + 2) = (k : Int) + 2 := IntWalk.i64_in _ (by omega)
              have r0 : (0 : Int) ≤ (k : Int) := by omega
              have r1 : (k : Int) < (L : Int) + 2 := by omega
              have r2 : (0 : Int) ≤ (k : Int) + 1 := by omega
              have r3 : (k : Int) + 1 < (L : Int) + 2 := by omega
              have r4 : (0 : Int) ≤ (k : Int) + 2 := by omega
              have r5 : (k : Int) + 2 < (L : Int) + 2 := by omega
              have t1 : ((k : Int) + 1).toNat = k + 1 := by omega
              have t2 : ((k : Int) + 2).toNat = k + 2 := by omega
              have A0 := absI_nonneg (p * q - r * r)
              have A1 := absI_le B.1 B.2
              have A2 : absI (p * q - r * r) ≤ 9223372036854775807 := by omega
              have G1 : s ≤ 9223372036854775807 := by omega
              go_wp2
              go_quiet (fail)
              obtain ⟨t, ht⟩ : ∃ x, Hid (p * q - r * r = x) := ⟨_, Lib.hid rfl⟩
              rw [ht.out] at A0 A2 HS B ⊢
              have S0 : -1000000000000000000 ≤ t := by omega
              have S1 : t ≤ 1000000000000000000 := by omega
              clear q0 q1 q2 w1 w2 w3
              go_wp2_with (first | (go_at_call 66; refine (l00Max_of t _ _ rfl S0 S1).mono ?_; rintro e w' ⟨rfl, rfl⟩) | (go_at_call 59; refine (l01Gcd_any s (absI t) _ G.1 G1 A0 A2).mono ?_; rintro e w' ⟨rfl, rfl⟩))
              go_roundw
              case rel => exact ⟨k + 1, by omega, by go_num, by rw [HS.out], _, rfl⟩
              case measure => simp [intOf]; omega
            · have hke : k = L := by omega
              subst hke
              by_cases hz : mg d k = 0
              · go_wp2
                go_ret2
                exact ⟨by rw [hz]; rfl, bw_drewN HW.out _⟩
              · have hz2 : (mg d k == 0) = false := by simp [hz]
                go_wp2
                go_ret2
                exact ⟨by rw [hz2]; rfl, bw_drewN HW.out _⟩
    · have e1 : mfromV xs = 0 := by simp [mfromV, mfromB, h4]
      rw [e1]; clear e1
      go_enter Try.func35, Try.ntmps35
      go_wp2_with (go_at_call 62; refine (l03Outputs_of h1 H.out hx).mono ?_; rintro e w1 ⟨rfl, rfl⟩)
      go_ret2
      exact ⟨rfl, bw_refl _⟩
end Go.Proofs.Ytifigkkghfjhpaa

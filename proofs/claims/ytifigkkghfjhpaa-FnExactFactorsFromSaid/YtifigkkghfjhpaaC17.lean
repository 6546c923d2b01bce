/-
  Contracts of both FactorsFrom. Conditions: the list is one of the law's own, with at most 2^20 elements.
-/
import Derived.Test.YtifigkkghfjhpaaC16
namespace Go.Proofs.Ytifigkkghfjhpaa
open Go.RowKit
set_option linter.unusedVariables false

/-- The factor a fits the first k pairs of differences. -/
def fitK (m : Int) (d : List Int) (a : Int) (k : Nat) : Bool := (List.range k).all fun j => decide ((a * d.getD j 0 - d.getD (j + 1) 0).tmod m = 0)
theorem fitK_succ (m : Int) (d : List Int) (a : Int) (k : Nat) : fitK m d a (k + 1) = (fitK m d a k && decide ((a * d.getD k 0 - d.getD (k + 1) 0).tmod m = 0)) := by simp [fitK, List.range_succ]
theorem fitK_false {m : Int} {d : List Int} {a : Int} {k : Nat} (h : fitK m d a k = false) : ∀ L, k ≤ L → fitK m d a L = false := by
  intro L hL
  induction L with
  | zero => have e : k = 0 := by omega
            subst e; exact h
  | succ n ih =>
    by_cases e : k = n + 1
    · subst e; exact h
    · rw [fitK_succ, ih (by omega)]; rfl
def ffl (m : Int) (d : List Int) (L k : Nat) : List Int := ((List.range k).map fun (a : Nat) => (a : Int)).filter fun a => fitK m d a L
theorem ffl_yes {m : Int} {d : List Int} {L k : Nat} (h : fitK m d k L = true) : ffl m d L (k + 1) = ffl m d L k ++ [(k : Int)] := by simp [ffl, List.range_succ, List.filter_append, h]
theorem ffl_no {m : Int} {d : List Int} {L k : Nat} (h : fitK m d k L = false) : ffl m d L (k + 1) = ffl m d L k := by simp [ffl, List.range_succ, List.filter_append, h]
theorem ffl_le (m : Int) (d : List Int) (L k : Nat) : ∀ n, (ffl m d L k).length ≤ (ffl m d L (k + n)).length
  | 0 => Nat.le_refl _
  | n + 1 => by
    have := ffl_le m d L k n
    rw [← Nat.add_assoc]
    cases h : fitK m d ((k + n : Nat) : Int) L with
    | false => rw [ffl_no h]; exact this
    | true => rw [ffl_yes h, List.length_append]; omega
theorem ffl_le' {m : Int} {d : List Int} {L k n : Nat} (h : k ≤ n) : (ffl m d L k).length ≤ (ffl m d L n).length := by
  have := ffl_le m d L k (n - k)
  rwa [Nat.add_sub_cancel' h] at this
theorem ffl_max (m : Int) (d : List Int) (L k : Nat) : (ffl m d L k).length ≤ k := by
  have := List.length_filter_le (fun a => fitK m d a L) ((List.range k).map fun (a : Nat) => (a : Int))
  simpa [ffl] using this
def ffB (m : Int) (xs : List Int) : Bool := inR m 2 100000 && (outB xs && (allB xs 0 (m - 1) && decide ((ffl m (dfs xs) (xs.length - 2) m.toNat).length ≤ 64)))
def ffL (m : Int) (xs : List Int) : List Int := if ffB m xs = true then ffl m (dfs xs) (xs.length - 2) m.toNat else []
theorem ffL_no {m : Int} {xs : List Int} (h : ffB m xs = false) : ffL m xs = [] := by simp [ffL, h]
theorem ft_bd {d : List Int} {n : Nat} (h : ∀ j, j < n → -99999 ≤ d.getD j 0 ∧ d.getD j 0 ≤ 99999) {a : Int} (h0 : 0 ≤ a) (h1 : a ≤ 100000) {k : Nat} (hk : k + 1 < n) :
    (-10000000000 ≤ a * d.getD k 0 ∧ a * d.getD k 0 ≤ 10000000000) ∧ -99999 ≤ d.getD k 0 ∧ d.getD k 0 ≤ 99999 ∧ -99999 ≤ d.getD (k + 1) 0 ∧ d.getD (k + 1) 0 ≤ 99999 := by
  have b := h k (by omega)
  have c := h (k + 1) hk
  have := prod_bd (M := 100000) (p := a) (q := d.getD k 0) (by omega) (by omega)
  exact ⟨by omega, by omega, by omega, by omega, by omega⟩
theorem ffL_len (m : Int) (xs : List Int) : (ffL m xs).length < 1000000000000 := by
  unfold ffL
  split
  · next h =>
    simp only [ffB, Bool.and_eq_true, decide_eq_true_eq] at h
    omega
  · simp

set_option maxRecDepth 100000 in
theorem FactorsFrom_any (m : Int) (xs : List Int) (a : Option Addr) (c base : Nat) (w : World) (h : HasL base w a c xs) (hx : xs.length < 1000000000000) :
    Calls Try.prog 34 #[.int .i64 m, .slice a xs.length c] w (RetL (ffL m xs) (ffB m xs) w) := by
  have H := Lib.hid h
  clear h
  cases h0 : inR m 2 100000 with
  | false =>
    have e1 : ffB m xs = false := by simp [ffB, h0]
    rw [ffL_no e1, e1]; clear e1
    go_enter Try.func34, Try.ntmps34
    go_wp2_with (go_at_call 49; refine (inRange_of h0 _).mono ?_; rintro e w' ⟨rfl, rfl⟩)
    go_ret2
    exact ⟨none, 0, rfl, HasL.nil _ _ _ _, bw_refl _⟩
  | true =>
    have b0 := inR_true h0
    cases h1 : outB xs with
    | false =>
      have e1 : ffB m xs = false := by simp [ffB, h1]
      rw [ffL_no e1, e1]; clear e1
      go_enter Try.func34, Try.ntmps34
      go_wp2_with (first | (go_at_call 49; refine (inRange_of h0 _).mono ?_; rintro e w' ⟨rfl, rfl⟩) | (go_at_call 63; refine (isOutputs_of h1 H.out hx).mono ?_; rintro e w1 ⟨rfl, hb⟩))
      go_ret2
      exact ⟨none, 0, rfl, HasL.nil _ _ _ _, hb⟩
    | true =>
      have h2 := outB_true h1
      have wm : IntKind.i64.wrap (m - 1) = m - 1 := IntWalk.i64_in _ (by omega)
      cases h3 : allB xs 0 (m - 1) with
      | false =>
        have e1 : ffB m xs = false := by simp [ffB, h3]
        rw [ffL_no e1, e1]; clear e1
        go_enter Try.func34, Try.ntmps34
        go_wp2_with (first | (go_at_call 49; refine (inRange_of h0 _).mono ?_; rintro e w' ⟨rfl, rfl⟩) | (go_at_call 63; refine (isOutputs_of h1 H.out hx).mono ?_; rintro e w1 ⟨rfl, hb⟩))
        refine (allIn_of h3 (H.out.later hb) hx).mono ?_
        rintro e w2 ⟨rfl, hb2⟩
        have hbb := hb.trans (hb2.mono hb.size)
        clear hb hb2
        go_wp2
        go_ret2
        exact ⟨none, 0, rfl, HasL.nil _ _ _ _, hbb⟩
      | true =>
        have HB := Lib.hid h2.2.2
        have l1 := h2.1
        have l2 := h2.2.1
        clear h2
        obtain ⟨M, rfl⟩ := Int.eq_ofNat_of_zero_le (show 0 ≤ m by omega)
        obtain ⟨L, hL⟩ : ∃ L, xs.length = L + 2 := ⟨xs.length - 2, by omega⟩
        have hL2 : xs.length - 2 = L := by omega
        have lL : L ≤ 62 := by omega
        have KL := Lib.hid hL
        have HD : Hid (∀ j, j < L + 1 → -99999 ≤ (dfs xs).getD j 0 ∧ (dfs xs).getD j 0 ≤ 99999) := Lib.hid fun j hj => dfs_bd HB.out (by omega)
        have lD : (dfs xs).length = L + 1 := by rw [dfs, dfk_len]; omega
        have eB : ffB M xs = decide ((ffl M (dfs xs) L M).length ≤ 64) := by simp [ffB, h0, h1, h3, hL2]
        have eL : ffL M xs = if (ffl M (dfs xs) L M).length ≤ 64 then ffl M (dfs xs) L M else [] := by simp only [ffL, eB, decide_eq_true_eq, hL2, Int.toNat_natCast]
        rw [eB, eL]; clear eB eL
        obtain ⟨d, hd⟩ : ∃ d, Hid (dfs xs = d) := ⟨_, Lib.hid rfl⟩
        rw [hd.out] at lD HD ⊢
        have LD := Lib.hid lD
        obtain ⟨R, hR⟩ : ∃ R, Hid ((if (ffl M d L M).length ≤ 64 then ffl M d L M else []) = R) := ⟨_, Lib.hid rfl⟩
        obtain ⟨RB, hRB⟩ : ∃ R, Hid (decide ((ffl M d L M).length ≤ 64) = R) := ⟨_, Lib.hid rfl⟩
        rw [hR.out, hRB.out]
        clear hL lD hL2
        go_enter Try.func34, Try.ntmps34
        go_wp2_with (first | (go_at_call 49; refine (inRange_of h0 _).mono ?_; rintro e w' ⟨rfl, rfl⟩) | (go_at_call 63; refine (isOutputs_of h1 H.out hx).mono ?_; rintro e w1 ⟨rfl, hb⟩))
        refine (allIn_of h3 (H.out.later hb) hx).mono ?_
        rintro e w2 ⟨rfl, hb2⟩
        have HW2 := Lib.hid (hb.trans (hb2.mono hb.size))
        have H2 := Lib.hid (H.out.later HW2.out)
        clear hb hb2
        go_wp2_with fail
        refine (differences_any xs a c base _ H2.out (by omega) (by omega) HB.out).mono ?_
        rw [hd.out]
        rintro e w3 ⟨a2, c2, rfl, hl, hb3⟩
        have HW := Lib.hid (HW2.out.trans (hb3.mono HW2.out.size))
        clear hb3
        obtain ⟨g, rfl, _, hg, hc, hf⟩ := hl.cells (by rw [LD.out]; omega)
        have HC := Lib.hid hc
        have HF := Lib.hid hf
        clear hc hf hl
        rw [LD.out]
        rw [LD.out] at HC
        clear H H2 LD h0 h1 h3 HB HW2
        have hs3 := HW.out.size
        go_wp2
        go_loopw [7, 30] (fun v i wr => ∃ k : Nat, k ≤ M ∧ i = .int .i64 k ∧ Hid (OwnI .i64 w3.heap.size 2 w3 wr v (ffl M d L k)) ∧ Hid ((ffl M d L k).length ≤ 64)) (fun _ i _ => M - (intOf i).toNat)
        case atStart => exact ⟨0, Nat.zero_le _, rfl, Lib.hid (OwnI.made (Below.refl _ _) (Nat.le_refl _)), Lib.hid (by simp [ffl])⟩
        case round =>
          obtain ⟨k, hk, rfl, ho, hlen⟩ := hrel
          obtain ⟨g7, cap7, rfl, _, _, _, _, _, _⟩ := ho.out.cell
          obtain ⟨n7, hn7⟩ : ∃ n, Hid ((ffl M d L k).length = n) := ⟨_, Lib.hid rfl⟩
          have l7 : n7 ≤ 64 := by rw [← hn7.out]; exact hlen.out
          rw [hn7.out] at ho ⊢
          by_cases hlt : k < M
          · go_wp2
            go_loopw [9, 10] (fun f j wq => ∃ (t : Nat) (b : Bool), t ≤ L ∧ j = .int .i64 t ∧ f = .bool b ∧ Hid (fitK M d k t = b) ∧ ∃ n, wq = wr.drewN n) (fun f j _ => L - (intOf j).toNat)
            case atStart => exact ⟨0, true, Nat.zero_le _, rfl, rfl, Lib.hid rfl, 0, rfl⟩
            case round =>
              obtain ⟨t, b, ht, rfl, rfl, hfit, n, rfl⟩ := hrel
              have HO := Lib.hid (ho.out.drewN n)
              have HL := Lib.hid (show (ffl M d L k).length < 1000000000000 by have := hlen.out; omega)
              cases b with
              | false =>
                have HN := Lib.hid (ffl_no (fitK_false hfit.out L ht))
                go_wp2
                go_roundw
                case rel => exact ⟨k + 1, by omega, by go_num, Lib.hid (by rw [HN.out]; exact HO.out), Lib.hid (by rw [HN.out]; exact hlen.out)⟩
                case measure => simp [intOf]; omega
              | true =>
                by_cases htl : t < L
                · have q0 := HC.out t (by omega)
                  have q1 := HC.out (t + 1) (by omega)
                  have q0' := ((ho.out.below).cell (p := ⟨g, t, none⟩) hg).trans q0
                  have q1' := ((ho.out.below).cell (p := ⟨g, t + 1, none⟩) hg).trans q1
                  clear q0 q1
                  have B := ft_bd HD.out (a := (k : Int)) (by omega) (by omega) (k := t) (by omega)
                  have HS := Lib.hid (fitK_succ (M : Int) d (k : Int) t)
                  obtain ⟨p, hp⟩ : ∃ x, Hid (d.getD t 0 = x) := ⟨_, Lib.hid rfl⟩
                  obtain ⟨q, hq⟩ : ∃ x, Hid (d.getD (t + 1) 0 = x) := ⟨_, Lib.hid rfl⟩
                  rw [hp.out, hq.out] at B HS
                  rw [hp.out] at q0'
                  rw [hq.out] at q1'
                  have w1 : IntKind.i64.wrap ((k : Int) * p) = k * p := IntWalk.i64_in _ (by omega)
                  have w2 : IntKind.i64.wrap (k * p - q) = k * p - q := IntWalk.i64_in _ (by omega)
                  have w4 : IntKind.i64.wrap ((t : Int) + 1) = (t : Int) + 1 := IntWalk.i64_in _ (by omega)
                  have bt := tdiv_bd (n := k * p - q) (M := 10000099999) (G := (M : Int)) (by omega) (by omega) (by omega)
                  have r0 : (0 : Int) ≤ (t : Int) := by omega
                  have r1 : (t : Int) < (L : Int) + 1 := by omega
                  have r2 : (0 : Int) ≤ (t : Int) + 1 := by omega
                  have r3 : (t : Int) + 1 < (L : Int) + 1 := by omega
                  have t1 : ((t : Int) + 1).toNat = t + 1 := by omega
                  have m0 : ¬ (M : Int) = 0 := by omega
                  have m1 : ¬ M = 0 := by omega
                  obtain ⟨r, hr⟩ : ∃ r, (k * p - q).tmod (M : Int) = r := ⟨_, rfl⟩
                  rw [hr] at HS
                  have rb : -10000099999 ≤ r ∧ r ≤ 10000099999 := by
                    have e := Int.natAbs_tmod (k * p - q) (M : Int)
                    have := Nat.mod_le (k * p - q : Int).natAbs (M : Int).natAbs
                    rw [hr] at e
                    omega
                  have w3 : IntKind.i64.wrap r = r := IntWalk.i64_in _ (by omega)
                  go_wp2
                  go_quiet (fail)
                  go_wp2
                  go_roundw
                  case rel => exact ⟨t + 1, (r == 0), by omega, by go_num, rfl, Lib.hid (by rw [HS.out, hfit.out, Bool.true_and]; by_cases h : r = 0 <;> simp [h]), _, rfl⟩
                  case measure => simp [intOf]; omega
                · have hte : t = L := by omega
                  subst hte
                  have HY := Lib.hid (ffl_yes hfit.out)
                  obtain ⟨n8, hn8⟩ : ∃ n, n7 + 1 = n := ⟨_, rfl⟩
                  have N8 := Lib.hid hn8
                  have l8 : n8 ≤ 65 := by omega
                  have HN8 := Lib.hid (show (ffl M d t k).length + 1 = n8 by rw [hn7.out, hn8])
                  clear hn8
                  by_cases h64 : n8 ≤ 64
                  · go_wp2_with (at_builtin; refine wpApp1 tI rfl _ _ rfl rfl HO.out rfl (by decide) HL.out n8 HN8.out ?_; intro g8 cap8 w4 hown1)
                    have HO1 := Lib.hid hown1
                    clear hown1
                    go_roundw
                    case rel => exact ⟨k + 1, by omega, by go_num, Lib.hid (by rw [HY.out]; exact HO1.out), Lib.hid (by rw [HY.out, List.length_append, hn7.out, List.length_singleton, N8.out]; exact h64)⟩
                    case measure => simp [intOf]; omega
                  · have hbig : ¬ (ffl M d t M).length ≤ 64 := by
                      have h1 := ffl_le' (m := (M : Int)) (d := d) (L := t) (show k + 1 ≤ M by omega)
                      rw [HY.out, List.length_append, hn7.out] at h1
                      simp only [List.length_singleton, N8.out] at h1
                      omega
                    have e1 : R = [] := by rw [← hR.out, if_neg hbig]
                    have e2 : RB = false := by rw [← hRB.out]; exact decide_eq_false hbig
                    clear hbig
                    subst e1 e2
                    go_wp2_with (at_builtin; refine wpApp1 tI rfl _ _ rfl rfl HO.out rfl (by decide) HL.out n8 HN8.out ?_; intro g8 cap8 w4 hown1)
                    have HO1 := Lib.hid hown1
                    clear hown1
                    have HW4 := Lib.hid (HW.out.trans (HO1.out.below.mono hs3))
                    go_ret2
                    exact ⟨none, 0, rfl, HasL.nil _ _ _ _, HW4.out⟩
          · have hke : k = M := by omega
            subst hke
            have hlen' := hlen.out
            have e1 : R = ffl k d L k := by rw [← hR.out, if_pos hlen']
            have e2 : RB = true := by rw [← hRB.out]; exact decide_eq_true hlen'
            have HW4 := Lib.hid (HW.out.trans (ho.out.below.mono hs3))
            obtain ⟨a', c', hv, hh⟩ := ho.out.hasL
            have HH := Lib.hid hh
            rw [hn7.out] at hv
            have HV := Lib.hid hv
            have E1 := Lib.hid e1
            clear hh hv hlen' e1
            subst e2
            go_wp2
            go_ret2
            exact ⟨a', c', by rw [E1.out, hn7.out, ← HV.out]; rfl, by rw [E1.out]; exact HH.out.mono hs3, HW4.out⟩
set_option maxRecDepth 100000 in
theorem sFactorsFrom_any (m : Int) (xs : List Int) (a : Option Addr) (c base : Nat) (w : World) (h : HasL base w a c xs) (hx : xs.length < 1000000000000) :
    Calls Try.prog 32 #[.int .i64 m, .slice a xs.length c] w (RetL (ffL m xs) (ffB m xs) w) := by
  have H := Lib.hid h
  clear h
  cases h0 : inR m 2 100000 with
  | false =>
    have e1 : ffB m xs = false := by simp [ffB, h0]
    rw [ffL_no e1, e1]; clear e1
    go_enter Try.func32, Try.ntmps32
    go_wp2_with (go_at_call 47; refine (l00In_of h0 _).mono ?_; rintro e w' ⟨rfl, rfl⟩)
    go_ret2
    exact ⟨none, 0, rfl, HasL.nil _ _ _ _, bw_refl _⟩
  | true =>
    have b0 := inR_true h0
    cases h1 : outB xs with
    | false =>
      have e1 : ffB m xs = false := by simp [ffB, h1]
      rw [ffL_no e1, e1]; clear e1
      go_enter Try.func32, Try.ntmps32
      go_wp2_with (first | (go_at_call 47; refine (l00In_of h0 _).mono ?_; rintro e w' ⟨rfl, rfl⟩) | (go_at_call 62; refine (l03Outputs_of h1 H.out hx).mono ?_; rintro e w1 ⟨rfl, rfl⟩))
      go_ret2
      exact ⟨none, 0, rfl, HasL.nil _ _ _ _, bw_refl _⟩
    | true =>
      have h2 := outB_true h1
      have HB := Lib.hid h2.2.2
      have l1 := h2.1
      have l2 := h2.2.1
      clear h2
      obtain ⟨M, rfl⟩ := Int.eq_ofNat_of_zero_le (show 0 ≤ m by omega)
      obtain ⟨L, hL⟩ : ∃ L, xs.length = L + 2 := ⟨xs.length - 2, by omega⟩
      have hL2 : xs.length - 2 = L := by omega
      have lL : L ≤ 62 := by omega
      have KL := Lib.hid hL
      have HD : Hid (∀ j, j < L + 1 → -99999 ≤ (dfs xs).getD j 0 ∧ (dfs xs).getD j 0 ≤ 99999) := Lib.hid fun j hj => dfs_bd HB.out (by omega)
      have HG : Hid (∀ j, j < L + 1 → (dfs xs).getD j 0 = xs.getD (j + 1) 0 - xs.getD j 0) := Lib.hid fun j hj => dfk_get xs (by omega)
      obtain ⟨R, hR⟩ : ∃ R, Hid (ffL M xs = R) := ⟨_, Lib.hid rfl⟩
      obtain ⟨RB, hRB⟩ : ∃ R, Hid (ffB M xs = R) := ⟨_, Lib.hid rfl⟩
      rw [hR.out, hRB.out]
      have HX : Hid (allB xs 0 ((M : Int) - 1) = true → RB = decide ((ffl M (dfs xs) L M).length ≤ 64) ∧ R = if (ffl M (dfs xs) L M).length ≤ 64 then ffl M (dfs xs) L M else []) := Lib.hid fun h3 => by
        have eB : ffB M xs = decide ((ffl M (dfs xs) L M).length ≤ 64) := by simp [ffB, h0, h1, h3, hL2]
        refine ⟨by rw [← hRB.out, eB], ?_⟩
        rw [← hR.out]
        simp only [ffL, eB, decide_eq_true_eq, hL2, Int.toNat_natCast]
      have HN : Hid (allB xs 0 ((M : Int) - 1) = false → RB = false ∧ R = []) := Lib.hid fun h3 => by
        have e1 : ffB M xs = false := by simp [ffB, h3]
        rw [ffL_no e1] at hR
        rw [e1] at hRB
        exact ⟨hRB.out.symm, hR.out.symm⟩
      obtain ⟨d, hd⟩ : ∃ d, Hid (dfs xs = d) := ⟨_, Lib.hid rfl⟩
      rw [hd.out] at HD HX HG
      obtain ⟨g, rfl, _, hg, hc, hf⟩ := H.out.cells (by omega)
      have HC := Lib.hid hc
      have HF := Lib.hid hf
      clear hL hL2 hc hf
      go_enter Try.func32, Try.ntmps32
      go_wp2_with (first | (go_at_call 47; refine (l00In_of h0 _).mono ?_; rintro e w' ⟨rfl, rfl⟩) | (go_at_call 62; refine (l03Outputs_of h1 H.out hx).mono ?_; rintro e w1 ⟨rfl, rfl⟩))
      clear h0 h1
      go_loop [6] (fun i => ∃ k : Nat, k ≤ xs.length ∧ i = .int .i64 k ∧ Hid (∀ j, j < k → inR (xs.getD j 0) 0 ((M : Int) - 1) = true)) (fun i => xs.length - (intOf i).toNat)
      case atStart => exact ⟨0, Nat.zero_le _, rfl, Lib.hid (fun j hj => by omega)⟩
      case round =>
        obtain ⟨k, hk, rfl, hgd⟩ := hrel
        by_cases hlt : k < xs.length
        · have q1 := HC.out k hlt
          obtain ⟨z, hz⟩ : ∃ z, Hid (xs.getD k 0 = z) := ⟨_, Lib.hid rfl⟩
          have bz := allB_get HB.out hlt
          rw [hz.out] at q1 bz
          have r0 : (0 : Int) ≤ (k : Int) := by omega
          have r1 : (k : Int) < (xs.length : Int) := by omega
          by_cases hzm : (M : Int) ≤ z
          · have h3 := HN.out (allB_bad hlt (by rw [hz.out]; simp [inR]; omega))
            obtain ⟨rfl, rfl⟩ := h3
            go_wp2
            go_ret2
            exact ⟨none, 0, rfl, HasL.nil _ _ _ _, bw_refl _⟩
          · have HG2 : Hid (∀ j, j < k + 1 → inR (xs.getD j 0) 0 ((M : Int) - 1) = true) := Lib.hid fun j hj => by
              by_cases e : j = k
              · subst e; rw [hz.out]; exact inR_mk (by omega) (by omega)
              · exact hgd.out j (by omega)
            go_wp2
            go_round
            case rel => exact ⟨k + 1, by omega, by go_num, HG2⟩
            case measure => simp [intOf]; omega
        · have hke : k = xs.length := by omega
          subst hke
          have hE := HX.out (allB_good hgd.out)
          have hR := Lib.hid hE.2.symm
          have hRB := Lib.hid hE.1.symm
          clear hE hgd
          go_wp2
          go_loopw [7, 8] (fun v i wr => ∃ k : Nat, k ≤ M ∧ i = .int .i64 k ∧ Hid (OwnI .i64 w.heap.size 2 w wr v (ffl M d L k)) ∧ Hid ((ffl M d L k).length ≤ 64)) (fun _ i _ => M - (intOf i).toNat)
          case atStart => exact ⟨0, Nat.zero_le _, rfl, Lib.hid (OwnI.made (Below.refl _ _) (Nat.le_refl _)), Lib.hid (by simp [ffl])⟩
          case round =>
            obtain ⟨k, hk, rfl, ho, hlen⟩ := hrel
            obtain ⟨g7, cap7, rfl, _, _, _, _, _, _⟩ := ho.out.cell
            obtain ⟨n7, hn7⟩ : ∃ n, Hid ((ffl M d L k).length = n) := ⟨_, Lib.hid rfl⟩
            have l7 : n7 ≤ 64 := by rw [← hn7.out]; exact hlen.out
            rw [hn7.out] at ho ⊢
            by_cases hlt : k < M
            · go_wp2
              go_loopw [9, 10] (fun f j wq => ∃ (t : Nat) (b : Bool), t ≤ L ∧ j = .int .i64 ((t : Int) + 2) ∧ f = .bool b ∧ Hid (fitK M d k t = b) ∧ ∃ n, wq = wr.drewN n) (fun f j _ => L + 2 - (intOf j).toNat)
              case atStart => exact ⟨0, true, Nat.zero_le _, by simp, rfl, Lib.hid rfl, 0, rfl⟩
              case round =>
                obtain ⟨t, b, ht, rfl, rfl, hfit, n, rfl⟩ := hrel
                have HO := Lib.hid (ho.out.drewN n)
                have HL := Lib.hid (show (ffl M d L k).length < 1000000000000 by have := hlen.out; omega)
                have lx : Hid (xs.length = L + 2) := KL
                cases b with
                | false =>
                  have HN := Lib.hid (ffl_no (fitK_false hfit.out L ht))
                  go_wp2
                  all_goals
                    go_roundw
                    case rel => exact ⟨k + 1, by omega, by go_num, Lib.hid (by rw [HN.out]; exact HO.out), Lib.hid (by rw [HN.out]; exact hlen.out)⟩
                    case measure => simp [intOf]; omega
                | true =>
                  by_cases htl : t < L
                  · have q0 := HC.out t (by have := KL.out; omega)
                    have q1 := HC.out (t + 1) (by have := KL.out; omega)
                    have q2 := HC.out (t + 2) (by have := KL.out; omega)
                    have q0' := ((ho.out.below).cell (p := ⟨g, t, none⟩) hg).trans q0
                    have q1' := ((ho.out.below).cell (p := ⟨g, t + 1, none⟩) hg).trans q1
                    have q2' := ((ho.out.below).cell (p := ⟨g, t + 2, none⟩) hg).trans q2
                    clear q0 q1 q2
                    have B := ft_bd HD.out (a := (k : Int)) (by omega) (by omega) (k := t) (by omega)
                    have HS := Lib.hid (fitK_succ (M : Int) d (k : Int) t)
                    have X0 := allB_get HB.out (k := t) (by have := KL.out; omega)
                    have X1 := allB_get HB.out (k := t + 1) (by have := KL.out; omega)
                    have X2 := allB_get HB.out (k := t + 2) (by have := KL.out; omega)
                    have G0 := HG.out t (by omega)
                    have G1 := HG.out (t + 1) (by omega)
                    obtain ⟨x, hx0⟩ : ∃ x, Hid (xs.getD t 0 = x) := ⟨_, Lib.hid rfl⟩
                    obtain ⟨y, hy0⟩ : ∃ x, Hid (xs.getD (t + 1) 0 = x) := ⟨_, Lib.hid rfl⟩
                    obtain ⟨z, hz0⟩ : ∃ x, Hid (xs.getD (t + 2) 0 = x) := ⟨_, Lib.hid rfl⟩
                    rw [hx0.out] at X0 G0 q0'
                    rw [hy0.out] at X1 G0 G1 q1'
                    rw [hz0.out] at X2 q2'
                    rw [show t + 1 + 1 = t + 2 from rfl, hz0.out] at G1
                    rw [G0, G1] at B HS
                    clear G0 G1
                    have w1 : IntKind.i64.wrap (z - y) = z - y := IntWalk.i64_in _ (by omega)
                    have w2 : IntKind.i64.wrap (y - x) = y - x := IntWalk.i64_in _ (by omega)
                    have w3 : IntKind.i64.wrap (k * (y - x)) = k * (y - x) := IntWalk.i64_in _ (by omega)
                    have w4 : IntKind.i64.wrap (z - y - k * (y - x)) = z - y - k * (y - x) := IntWalk.i64_in _ (by omega)
                    have w5 : IntKind.i64.wrap ((t : Int) + 2 - 1) = (t : Int) + 1 := by rw [show (t : Int) + 2 - 1 = (t : Int) + 1 by omega]; exact IntWalk.i64_in _ (by omega)
                    have w6 : IntKind.i64.wrap (t : Int) = (t : Int) := IntWalk.i64_in _ (by omega)
                    have w7 : IntKind.i64.wrap ((t : Int) + 1) = (t : Int) + 1 := IntWalk.i64_in _ (by omega)
                    have w8 : IntKind.i64.wrap ((t : Int) + 2) = (t : Int) + 2 := IntWalk.i64_in _ (by omega)
                    have r0 : (0 : Int) ≤ (t : Int) := by omega
                    have r1 : (t : Int) < (xs.length : Int) := by have := KL.out; omega
                    have r2 : (0 : Int) ≤ (t : Int) + 1 := by omega
                    have r3 : (t : Int) + 1 < (xs.length : Int) := by have := KL.out; omega
                    have r4 : (0 : Int) ≤ (t : Int) + 2 := by omega
                    have r5 : (t : Int) + 2 < (xs.length : Int) := by have := KL.out; omega
                    have t1 : ((t : Int) + 1).toNat = t + 1 := by omega
                    have t2 : ((t : Int) + 2).toNat = t + 2 := by omega
                    have m0 : ¬ (M : Int) = 0 := by omega
                    have m1 : ¬ M = 0 := by omega
                    obtain ⟨r, hr⟩ : ∃ r, (z - y - k * (y - x)).tmod (M : Int) = r := ⟨_, rfl⟩
                    have e0 : (k * (y - x) - (z - y)).tmod (M : Int) = -r := by rw [← hr, ← Int.neg_tmod]; congr 1; omega
                    rw [e0] at HS
                    clear e0
                    have rb : -10000299999 ≤ r ∧ r ≤ 10000299999 := by
                      have e := Int.natAbs_tmod (z - y - k * (y - x)) (M : Int)
                      have := Nat.mod_le (z - y - k * (y - x) : Int).natAbs (M : Int).natAbs
                      rw [hr] at e
                      omega
                    have w9 : IntKind.i64.wrap r = r := IntWalk.i64_in _ (by omega)
                    go_wp2
                    go_quiet (fail)
                    go_wp2
                    go_roundw
                    case rel => exact ⟨t + 1, (r == 0), by omega, by go_num, rfl, Lib.hid (by rw [HS.out, hfit.out, Bool.true_and]; by_cases h : r = 0 <;> simp [h]), _, rfl⟩
                    case measure => simp [intOf]; omega
                  · have hte : t = L := by omega
                    subst hte
                    have HY := Lib.hid (ffl_yes hfit.out)
                    have HLX := KL
                    have r1 : (xs.length : Int) = (t : Int) + 2 := by have := KL.out; omega
                    have HR1 := Lib.hid r1
                    have r2 : ¬ (t : Int) + 2 < (xs.length : Int) := by omega
                    clear r1
                    by_cases h64 : n7 = 64
                    · have hbig : ¬ (ffl M d t M).length ≤ 64 := by
                        have h1 := ffl_le' (m := (M : Int)) (d := d) (L := t) (show k + 1 ≤ M by omega)
                        rw [HY.out, List.length_append, hn7.out] at h1
                        simp only [List.length_singleton] at h1
                        omega
                      have e1 : R = [] := by rw [← hR.out, if_neg hbig]
                      have e2 : RB = false := by rw [← hRB.out]; exact decide_eq_false hbig
                      have HW4 := Lib.hid HO.out.below
                      clear hbig
                      subst e1 e2 h64
                      go_wp2
                      go_ret2
                      exact ⟨none, 0, rfl, HasL.nil _ _ _ _, HW4.out⟩
                    · obtain ⟨n8, hn8⟩ : ∃ n, n7 + 1 = n := ⟨_, rfl⟩
                      have N8 := Lib.hid hn8
                      have l8 : n8 ≤ 64 := by omega
                      have HN8 := Lib.hid (show (ffl M d t k).length + 1 = n8 by rw [hn7.out, hn8])
                      clear hn8
                      go_wp2_with (at_builtin; refine wpApp1 tI rfl _ _ rfl rfl HO.out rfl (by decide) HL.out n8 HN8.out ?_; intro g8 cap8 w4 hown1)
                      have HO1 := Lib.hid hown1
                      clear hown1
                      go_roundw
                      case rel => exact ⟨k + 1, by omega, by go_num, Lib.hid (by rw [HY.out]; exact HO1.out), Lib.hid (by rw [HY.out, List.length_append, hn7.out, List.length_singleton, N8.out]; exact l8)⟩
                      case measure => simp [intOf]; omega
            · have hke : k = M := by omega
              subst hke
              have hlen' := hlen.out
              have e1 : R = ffl k d L k := by rw [← hR.out, if_pos hlen']
              have e2 : RB = true := by rw [← hRB.out]; exact decide_eq_true hlen'
              have HW4 := Lib.hid ho.out.below
              obtain ⟨a', c', hv, hh⟩ := ho.out.hasL
              have HH := Lib.hid hh
              rw [hn7.out] at hv
              have HV := Lib.hid hv
              have E1 := Lib.hid e1
              clear hh hv hlen' e1
              subst e2
              go_wp2
              go_ret2
              exact ⟨a', c', by rw [E1.out, hn7.out, ← HV.out]; rfl, by rw [E1.out]; exact HH.out, HW4.out⟩
end Go.Proofs.Ytifigkkghfjhpaa

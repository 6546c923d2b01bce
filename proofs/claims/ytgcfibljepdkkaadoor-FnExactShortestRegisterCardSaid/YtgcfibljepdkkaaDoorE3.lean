/-
  Contracts of the reference's l02Shortest, l02Least, l02Few, WidthsOf and ShortestRegister. Condition: the text's length.
-/
import Derived.Test.YtgcfibljepdkkaaDoorE2
import Derived.Test.YtgcfibljepdkkaaDoorBlk
namespace Go.Proofs.YtgcfibljepdkkaaDoor
open Go.RowKit
set_option linter.unusedVariables false

theorem eqA_lt {s : ByteArray} (hb : BitsTo s s.size) {W : Nat} (h : W ≤ s.size) : ∀ e ∈ eqA s W, e < 2 ^ (W + 1) := eqL_lt hb (by omega)
theorem eqA_len (s : ByteArray) (W : Nat) : (eqA s W).length = s.size - W := eqL_len ..
/-- Few bits. -/
noncomputable def fewB (s : ByteArray) : Bool := bitsB s && decide (s.size ≤ 32)
theorem fewB_true {s : ByteArray} (h : fewB s = true) : BitsTo s s.size ∧ s.size ≤ 32 := by
  unfold fewB at h
  obtain ⟨h1, h2⟩ := Bool.and_eq_true_iff.1 h
  exact ⟨(bitsB_true h1).1, of_decide_eq_true h2⟩
theorem l02Few_any (s : ByteArray) (w : World) (hs : s.size ≤ 1048576) :
    Calls Tryd.prog 16 #[.string s] w fun e w' => e = .returned (.bool (fewB s)) ∧ w = w' := by
  cases hb : bitsB s with
  | false =>
    have e : fewB s = false := by unfold fewB; rw [hb]; rfl
    rw [e]; clear e
    go_enter Tryd.func16, Tryd.ntmps16
    go_wp2_with (go_at_call 29; refine (l01Bits_of hb _ hs).mono ?_; rintro e w' ⟨rfl, rfl⟩)
    go_ret
    exact ⟨rfl, rfl⟩
  | true =>
    have e : fewB s = decide (s.size ≤ 32) := by unfold fewB; rw [hb]; rfl
    by_cases h32 : s.size ≤ 32
    · rw [e, decide_eq_true h32]; clear e
      go_enter Tryd.func16, Tryd.ntmps16
      go_wp2_with (go_at_call 29; refine (l01Bits_of hb _ hs).mono ?_; rintro e w' ⟨rfl, rfl⟩)
      go_ret
      exact ⟨ret_bool (by simp; omega), rfl⟩
    · rw [e, decide_eq_false h32]; clear e
      go_enter Tryd.func16, Tryd.ntmps16
      go_wp2_with (go_at_call 29; refine (l01Bits_of hb _ hs).mono ?_; rintro e w' ⟨rfl, rfl⟩)
      go_ret
      exact ⟨ret_bool (by simp; omega), rfl⟩
set_option maxHeartbeats 1000000 in
theorem l02Shortest_any (s : ByteArray) (w : World) (hb : BitsTo s s.size) (hs : s.size ≤ 32) :
    Calls Tryd.prog 17 #[.string s] w fun e w' => e = .returned (.int .i64 (shW s : Nat)) ∧ Below w.heap.size w w' := by
  have HB := Lib.hid hb
  have HS := Lib.hid (shW_is s)
  have hle := (shW_is s).le
  obtain ⟨m, HM⟩ : ∃ m, Hid (shW s = m) := ⟨_, Lib.hid rfl⟩
  rw [HM.out] at HS hle ⊢
  clear hb
  go_enter Tryd.func17, Tryd.ntmps17
  go_wp2
  go_loopw [3] (fun i wr => ∃ k : Nat, k ≤ m ∧ i = .int .i64 k ∧ Hid (Below w.heap.size w wr)) (fun i _ => m - (intOf i).toNat)
  case atStart => exact ⟨0, Nat.zero_le _, rfl, Lib.hid (bw_refl _)⟩
  case round =>
    obtain ⟨k, hk, rfl, hbl⟩ := hrel
    have HL := Lib.hid (eqA_lt HB.out (show k ≤ s.size by omega))
    have HN : Hid ((eqA s k).length ≤ 1000) := Lib.hid (by rw [eqA_len]; omega)
    have u1 : IntKind.u64.wrap (k : Int) = k := IntWalk.u64_in _ (by omega)
    have hk32 : k ≤ 32 := by omega
    have hks : k ≤ s.size := by omega
    have hS := fun (w1 : World) v base W0 h => l02Solves_any k (eqA s k) v base W0 w1 h hk32 HN.out HL.out
    by_cases hkm : k < m
    · rw [solvB_no (HS.out.2 k hkm)] at hS
      go_wp2_with fail
      refine (l02Equations_any s k _ HB.out hs hks).mono ?_
      rintro e w1 ⟨v, rfl, ho⟩
      have HO := Lib.hid ho
      clear ho
      go_wp2_with fail
      refine (hS _ _ _ _ HO.out).mono ?_
      rintro e w2 ⟨rfl, hb2⟩
      have HB2 := Lib.hid (bw_call (bw_call hbl.out HO.out.below) hb2)
      clear hS hb2 u1
      go_wp2
      go_roundw
      case rel => exact ⟨k + 1, by omega, by go_num, HB2⟩
      case measure => simp [intOf]; omega
    · have hke : k = m := by omega
      subst hke
      rw [solvB_yes HS.out.1] at hS
      go_wp2_with fail
      refine (l02Equations_any s k _ HB.out hs hks).mono ?_
      rintro e w1 ⟨v, rfl, ho⟩
      have HO := Lib.hid ho
      clear ho
      go_wp2_with fail
      refine (hS _ _ _ _ HO.out).mono ?_
      rintro e w2 ⟨rfl, hb2⟩
      have HB2 := Lib.hid (bw_call (bw_call hbl.out HO.out.below) hb2)
      clear hS hb2 u1
      go_wp2
      go_ret
      exact ⟨rfl, HB2.out⟩
set_option maxHeartbeats 1000000 in
theorem l02Least_any (W L : Nat) (es : List Nat) (v : Value) (base : Nat) (W0 w : World) (h : OwnI .i64 base 2 W0 w v (nl es)) (hW : W ≤ 32) (hl : es.length ≤ 100) (he : ∀ e ∈ es, e < 2 ^ (W + 1)) (hL : LeastS W es L) :
    Calls Tryd.prog 20 #[v, .int .i64 W] w fun e w' => e = .returned (.int .i64 (L : Nat)) ∧ Below w.heap.size w w' := by
  have H := Lib.hid h
  have HE := Lib.hid he
  have HL := Lib.hid hL
  clear h he hL
  obtain ⟨q, HQ⟩ : ∃ q, Hid (2 ^ W = q) := ⟨_, Lib.hid rfl⟩
  have hq : q ≤ 4294967296 := by rw [← HQ.out]; exact Nat.le_trans (Nat.pow_le_pow_right (by decide) hW) (by decide)
  have hshW : wrap64 (2 ^ W) = (q : Int) := by rw [shl_one (by omega), HQ.out]
  have HSW := Lib.hid hshW
  clear hshW
  go_enter Tryd.func20, Tryd.ntmps20
  go_wp2
  go_loopw [0, 5, 6] (fun e o i wr => ∃ (c out : Nat) (es' : List Nat) (z : Int), c ≤ W ∧ -1 ≤ z ∧ z ≤ 31 ∧ i = .int .i64 z ∧ o = .int .i64 (out : Nat) ∧ Hid (z = (c : Int) - 1) ∧ Hid (∃ b X, OwnI .i64 b 2 X wr e (nl es')) ∧ Hid (LSt W es L c out es') ∧ Hid (∀ e ∈ es', e < 2 ^ (W + 1)) ∧ Hid (es'.length + c ≤ es.length + W) ∧ Hid (Below w.heap.size w wr)) (fun _ _ i _ => (intOf i + 1).toNat)
  case atStart => exact ⟨W, 0, es, _, Nat.le_refl _, by omega, by omega, rfl, rfl, Lib.hid rfl, Lib.hid ⟨_, _, H.out⟩, Lib.hid (LSt.start HL.out), HE, Lib.hid (Nat.le_refl _), Lib.hid (bw_refl _)⟩
  case round =>
    obtain ⟨c, out, es', z, hc, hz0, hz1, rfl, rfl, hz, ho, hs, hlt, hlen, hb⟩ := hrel
    by_cases hzz : 0 ≤ z
    · obtain ⟨d, rfl⟩ := Int.eq_ofNat_of_zero_le hzz
      obtain rfl : c = d + 1 := by have := hz.out; omega
      have hdW : d < W := by omega
      have hout : out < 2 ^ W := Nat.lt_of_not_le fun q' => by
        obtain ⟨j, h1, h2⟩ := Nat.exists_ge_and_testBit_of_ge_two_pow q'
        rw [hs.out.bits j, Nat.testBit_lt_two_pow (Nat.lt_of_lt_of_le HL.out.lt (Nat.pow_le_pow_right (by decide) h1))] at h2
        simp at h2
      rw [HQ.out] at hout
      obtain ⟨p, HP⟩ : ∃ p, Hid (2 ^ d = p) := ⟨_, Lib.hid rfl⟩
      have hp : p ≤ q := by rw [← HP.out, ← HQ.out]; exact Nat.pow_le_pow_right (by decide) (by omega)
      have hpq : p < q := by rw [← HP.out, ← HQ.out]; exact Nat.pow_lt_pow_right (by decide) hdW
      have hsh : wrap64 (2 ^ d) = (p : Int) := by rw [shl_one (by omega), HP.out]
      have hor := i64_or_nat p q (by omega) (by omega)
      have hor2 := i64_or_nat out p (by omega) (by omega)
      obtain ⟨b, X, hown⟩ := ho.out
      have HO := Lib.hid hown
      have HN : Hid ((nl es').length < 100000000) := Lib.hid (by have := hlen.out; rw [nl_len]; omega)
      have HN2 : Hid ((nl es').length < 1000000000000) := Lib.hid (by have := hlen.out; rw [nl_len]; omega)
      have HS1 : Hid (nl es' ++ [(p : Int)] = nl (es' ++ [p])) := Lib.hid (by rw [nl_snoc])
      have HS2 : Hid (nl es' ++ [((p ||| q : Nat) : Int)] = nl (es' ++ [p ||| q])) := Lib.hid (by rw [nl_snoc])
      have HT1 : Hid (∀ e ∈ es' ++ [p], e < 2 ^ (W + 1)) := Lib.hid fun e he => by
        rcases List.mem_append.1 he with h | h
        · exact hlt.out e h
        · rw [List.mem_singleton] at h; subst h; rw [Nat.pow_succ, HQ.out]; omega
      have HT2 : Hid (∀ e ∈ es' ++ [p ||| q], e < 2 ^ (W + 1)) := Lib.hid fun e he => by
        rcases List.mem_append.1 he with h | h
        · exact hlt.out e h
        · rw [List.mem_singleton] at h; subst h
          exact Nat.or_lt_two_pow (by rw [Nat.pow_succ, HQ.out]; omega) (by rw [Nat.pow_succ, HQ.out]; omega)
      have HL1 : Hid ((es' ++ [p]).length ≤ 1000) := Lib.hid (by have := hlen.out; rw [List.length_append]; simp; omega)
      have HLA : Hid ((es' ++ [p]).length + d ≤ es.length + W) := Lib.hid (by have := hlen.out; rw [List.length_append]; simp; omega)
      have HLB : Hid ((es' ++ [p ||| q]).length + d ≤ es.length + W) := Lib.hid (by have := hlen.out; rw [List.length_append]; simp; omega)
      have u1 : IntKind.u64.wrap (W : Int) = W := IntWalk.u64_in _ (by omega)
      have hS := fun (w1 : World) v base W0 h => l02Solves_any W (es' ++ [p]) v base W0 w1 h hW HL1.out HT1.out
      have HSW1 := HSW.out
      clear hown hp hpq
      cases hsol : solvB W (es' ++ [p]) with
      | true =>
        have HY : Hid (LSt W es L d out (es' ++ [p])) := Lib.hid (by have := hs.out.yes HL.out hdW (by rw [HP.out]; exact solvB_true hsol); rwa [HP.out] at this)
        rw [hsol] at hS
        clear hsol hor hor2 HSW1
        go_wp2_with fail
        refine (l00Own_any (nl es') _ b X _ HO.out HN.out).mono ?_
        rintro e w1 ⟨v1, rfl, ho1⟩
        have HO1 := Lib.hid ho1
        clear ho1
        go_wp2_with (first | (at_builtin; refine wpApp tI rfl _ _ rfl rfl HO1.out rfl (by decide) HN2.out ?_; intro v' w7 hown7) | (go_at_call 30; have hown8 := hown7; rw [HS1.out] at hown8; refine (hS _ _ _ _ hown8).mono ?_; rintro e w2 ⟨rfl, hb2⟩))
        go_roundw
        case rel => exact ⟨d, out, es' ++ [p], _, by omega, by omega, by omega, rfl, rfl, Lib.hid (by omega), Lib.hid ⟨_, _, hown8.later hb2⟩, HY, HT1, HLA, Lib.hid (bw_call (bw_call hb.out hown8.below) hb2)⟩
        case measure => simp [intOf] <;> omega
      | false =>
        have HY : Hid (LSt W es L d (out ||| p) (es' ++ [p ||| q])) := Lib.hid (by have := hs.out.no HL.out hdW (by rw [HP.out]; exact solvB_false hsol); rwa [HP.out, HQ.out] at this)
        rw [hsol] at hS
        clear hsol
        go_wp2_with fail
        refine (l00Own_any (nl es') _ b X _ HO.out HN.out).mono ?_
        rintro e w1 ⟨v1, rfl, ho1⟩
        have HO1 := Lib.hid ho1
        clear ho1
        go_wp2_with (first | (at_builtin; refine wpApp tI rfl _ _ rfl rfl HO1.out rfl (by decide) HN2.out ?_; intro v' w7 hown7) | (go_at_call 30; have hown8 := hown7; rw [HS1.out] at hown8; refine (hS _ _ _ _ hown8).mono ?_; rintro e w2 ⟨rfl, hb2⟩))
        have HB2 := Lib.hid (bw_call (bw_call hb.out hown8.below) hb2)
        have HO2 := Lib.hid ((HO.out.later hown8.below).later hb2)
        clear hown7 hown8 hb2
        go_wp2_with fail
        refine (l00Own_any (nl es') _ b X _ HO2.out HN.out).mono ?_
        rintro e w3 ⟨v3, rfl, ho3⟩
        have HO3 := Lib.hid ho3
        clear ho3
        go_wp2_with (at_builtin; refine wpApp tI rfl _ _ rfl rfl HO3.out rfl (by decide) HN2.out ?_; intro v' w7 hown7)
        go_roundw
        case rel => exact ⟨d, out ||| p, es' ++ [p ||| q], _, by omega, by omega, by omega, rfl, by go_num, Lib.hid (by omega), Lib.hid ⟨_, _, by rw [← HS2.out]; exact hown7⟩, HY, HT2, HLB, Lib.hid (bw_call HB2.out hown7.below)⟩
        case measure => simp [intOf] <;> omega
    · obtain rfl : c = 0 := by have := hz.out; omega
      obtain rfl : out = L := hs.out.done
      go_wp2
      go_ret
      exact ⟨rfl, hb.out⟩
/-- The widths of the first 1, 2, .. n bits. -/
noncomputable def wdL (s : ByteArray) (n : Nat) : List Int := (List.range n).map fun i => ((shW (s.extract 0 (i + 1)) : Nat) : Int)
theorem wdL_succ (s : ByteArray) (n : Nat) : wdL s (n + 1) = wdL s n ++ [((shW (s.extract 0 (n + 1)) : Nat) : Int)] := by simp [wdL, List.range_succ]
theorem wdL_len (s : ByteArray) (n : Nat) : (wdL s n).length = n := by simp [wdL]
theorem pre_bits {s : ByteArray} (hb : BitsTo s s.size) {n : Nat} (h : n ≤ s.size) : BitsTo (s.extract 0 n) (s.extract 0 n).size ∧ (s.extract 0 n).size = n := by
  have e : (s.extract 0 n).size = n := by rw [ByteArray.size_extract]; omega
  refine ⟨fun i hi hlt => ?_, e⟩
  have := hb i (by omega) (by omega)
  rw [ByteArray.getElem_extract]
  simpa using this
/-- WidthsOf's results. -/
noncomputable def wdR (s : ByteArray) : List Int := if fewB s = true then wdL s s.size else []
set_option maxHeartbeats 1000000 in
theorem sWidthsOf_any (s : ByteArray) (w : World) (hs : s.size ≤ 1048576) :
    Calls Tryd.prog 6 #[.string s] w (RetL (wdR s) (fewB s) w) := by
  cases hf : fewB s with
  | false =>
    have e : wdR s = [] := by unfold wdR; rw [hf]; rfl
    rw [e]; clear e
    have hF : ∀ w1, Calls Tryd.prog 16 #[.string s] w1 fun e w' => e = .returned (.bool false) ∧ w1 = w' := fun w1 => by have := l02Few_any s w1 hs; rwa [hf] at this
    go_enter Tryd.func6, Tryd.ntmps6
    go_wp2_with (go_at_call 16; refine (hF _).mono ?_; rintro e w' ⟨rfl, rfl⟩)
    go_ret2
    exact ⟨_, _, rfl, .inl rfl, bw_refl _⟩
  | true =>
    have e : wdR s = wdL s s.size := by unfold wdR; rw [hf]; rfl
    rw [e]; clear e
    have hF : ∀ w1, Calls Tryd.prog 16 #[.string s] w1 fun e w' => e = .returned (.bool true) ∧ w1 = w' := fun w1 => by have := l02Few_any s w1 hs; rwa [hf] at this
    obtain ⟨hb, h32⟩ := fewB_true hf
    have HB := Lib.hid hb
    clear hb hf
    go_enter Tryd.func6, Tryd.ntmps6
    go_wp2_with (go_at_call 16; refine (hF _).mono ?_; rintro e w' ⟨rfl, rfl⟩)
    go_loopw [4, 5] (fun v i wr => ∃ k : Nat, k ≤ s.size ∧ i = .int .i64 (k + 1 : Nat) ∧ Hid (OwnI .i64 w.heap.size 2 w wr v (wdL s k))) (fun _ i _ => s.size + 1 - (intOf i).toNat)
    case atStart => exact ⟨0, Nat.zero_le _, rfl, Lib.hid (OwnI.made (bw_refl _) (Nat.le_refl _))⟩
    case round =>
      obtain ⟨k, hk, rfl, ho⟩ := hrel
      by_cases hlt : k < s.size
      · obtain ⟨hpb, hps⟩ := pre_bits HB.out (n := k + 1) (by omega)
        have HPB := Lib.hid hpb
        have HE := Lib.hid (wdL_succ s k)
        have HL : Hid ((wdL s k).length < 1000000000000) := Lib.hid (by rw [wdL_len]; omega)
        have hSh := fun w1 => l02Shortest_any (s.extract 0 (k + 1)) w1 HPB.out (by omega)
        clear hpb hps
        obtain ⟨j, HJ⟩ : ∃ j, Hid (k + 1 = j) := ⟨_, Lib.hid rfl⟩
        simp only [HJ.out] at hSh HE HPB ⊢
        have hj := HJ.out
        have hj1 : j ≤ s.size := by omega
        have hj0 : 1 ≤ j := by omega
        clear hj
        obtain ⟨m, HM⟩ : ∃ m, Hid (shW (s.extract 0 j) = m) := ⟨_, Lib.hid rfl⟩
        rw [HM.out] at HE
        simp only [HM.out] at hSh
        go_wp2_with (first | (go_at_call 17; refine (hSh _).mono ?_; rintro e w2 ⟨rfl, hb2⟩) | (at_builtin; refine wpApp tI rfl _ _ rfl rfl (ho.out.later hb2) rfl (by decide) HL.out ?_; intro v' w7 hown7))
        go_roundw
        case rel => exact ⟨k + 1, by omega, by rw [HJ.out]; go_num, Lib.hid (by rw [HJ.out, HE.out]; exact hown7)⟩
        case measure => simp [intOf]; omega
      · have hke : k = s.size := by omega
        subst hke
        have HH := Lib.hid ho.out.hasL
        have HBl := Lib.hid ho.out.below
        obtain ⟨g, cap, rfl⟩ := ho.out.2.2.2
        rw [wdL_len] at *
        have r1 : ¬ ((s.size + 1 : Nat) : Int) ≤ (s.size : Int) := by omega
        go_wp2
        go_ret2
        obtain ⟨a', c', hv, hh⟩ := HH.out
        simp only [Value.slice.injEq] at hv
        obtain ⟨rfl, _, rfl⟩ := hv
        exact ⟨_, _, by rw [wdL_len]; rfl, hh, HBl.out⟩
/-- ShortestRegister's results. -/
noncomputable def srB (s : ByteArray) : Bool := fewB s && decide (shW s ≤ 16)
noncomputable def srW (s : ByteArray) : Nat := if srB s = true then shW s else 0
noncomputable def srT (s : ByteArray) : Nat := if srB s = true then shL s else 0
noncomputable def srS (s : ByteArray) : Nat := if srB s = true then eqN s 0 (shW s) else 0
/-- A register, a state and a bool handed back. -/
def RegR (W T S : Nat) (b : Bool) (w : World) (e : Ending) (w' : World) : Prop :=
  e = .returned (.tuple #[.agg #[.int .i64 W, .int .i64 T], .int .i64 S, .bool b]) ∧ Below w.heap.size w w'
theorem sr_no {s : ByteArray} (h : srB s = false) : srW s = 0 ∧ srT s = 0 ∧ srS s = 0 := by simp [srW, srT, srS, h]
theorem sr_yes {s : ByteArray} (h : srB s = true) : srW s = shW s ∧ srT s = shL s ∧ srS s = eqN s 0 (shW s) := by simp [srW, srT, srS, h]
theorem sr_few {s : ByteArray} (h : fewB s = false) : srB s = false := by simp [srB, h]
set_option maxHeartbeats 1000000 in
set_option maxRecDepth 100000 in
theorem sShortestRegister_any (s : ByteArray) (w : World) (hs : s.size ≤ 1048576) :
    Calls Tryd.prog 11 #[.string s] w (RegR (srW s) (srT s) (srS s) (srB s) w) := by
  cases hf : fewB s with
  | false =>
    obtain ⟨e1, e2, e3⟩ := sr_no (sr_few hf)
    rw [e1, e2, e3, sr_few hf]; clear e1 e2 e3
    have hF : ∀ w1, Calls Tryd.prog 16 #[.string s] w1 fun e w' => e = .returned (.bool false) ∧ w1 = w' := fun w1 => by have := l02Few_any s w1 hs; rwa [hf] at this
    go_enter Tryd.func11, Tryd.ntmps11
    go_wp2_with (go_at_call 16; refine (hF _).mono ?_; rintro e w' ⟨rfl, rfl⟩)
    refine bodyPost_ret (v := .tuple #[.agg #[.int .i64 (0 : Nat), .int .i64 (0 : Nat)], .int .i64 (0 : Nat), .bool false]) (by simp [results, Tryd.results11, go_sem]) rfl ⟨rfl, ?_⟩
    repeat (first | exact bw_alloc (bw_refl _) _ | refine bw_setCell ?_ (by simp) _)
  | true =>
    have hF : ∀ w1, Calls Tryd.prog 16 #[.string s] w1 fun e w' => e = .returned (.bool true) ∧ w1 = w' := fun w1 => by have := l02Few_any s w1 hs; rwa [hf] at this
    obtain ⟨hb, h32⟩ := fewB_true hf
    have HB := Lib.hid hb
    have hle := (shW_is s).le
    have hSh := fun w1 => l02Shortest_any s w1 HB.out h32
    clear hb
    by_cases h16 : shW s ≤ 16
    · have e : srB s = true := by unfold srB; rw [hf, decide_eq_true h16]; rfl
      obtain ⟨e1, e2, e3⟩ := sr_yes e
      rw [e1, e2, e3, e]; clear e1 e2 e3 e hf
      have HLs := Lib.hid (shL_is s)
      have hEq := fun w1 => l02Equations_any s (shW s) w1 HB.out h32 hle
      have hLe := fun (w1 : World) v base W0 h => l02Least_any (shW s) (shL s) (eqA s (shW s)) v base W0 w1 h (by omega) (by rw [eqA_len]; omega) (eqA_lt HB.out hle) HLs.out
      obtain ⟨L, HL⟩ : ∃ L, Hid (shL s = L) := ⟨_, Lib.hid rfl⟩
      simp only [HL.out] at hLe ⊢
      obtain ⟨m, HM⟩ : ∃ m, Hid (shW s = m) := ⟨_, Lib.hid rfl⟩
      simp only [HM.out] at hSh hEq hLe hle h16 ⊢
      obtain ⟨S, HSt⟩ : ∃ S, Hid (eqN s 0 m = S) := ⟨_, Lib.hid rfl⟩
      simp only [HSt.out]
      obtain ⟨es, HEs⟩ : ∃ es, Hid (eqA s m = es) := ⟨_, Lib.hid rfl⟩
      simp only [HEs.out] at hEq hLe
      clear HLs
      go_enter Tryd.func11, Tryd.ntmps11
      go_wp2_with (go_at_call 16; refine (hF _).mono ?_; rintro e w' ⟨rfl, rfl⟩)
      refine (hSh _).mono ?_
      rintro e w1 ⟨rfl, hb1⟩
      have K1 := Lib.hid ((Blk.new w #[.int .i64 0, .int .i64 0] 29).later hb1)
      have HB1 := Lib.hid (bw_call (bw_alloc (bw_refl w) _) hb1)
      clear hSh hF hb1
      go_wp2
      go_loop [6, 7] (fun q i => ∃ k : Nat, k ≤ m ∧ i = .int .i64 k ∧ q = .int .i64 (eqN s 0 k : Nat)) (fun _ i => m - (intOf i).toNat)
      case atStart => exact ⟨0, Nat.zero_le _, rfl, rfl⟩
      case round =>
        obtain ⟨k, hk, rfl, rfl⟩ := hrel
        have hq := eqN_lt HB.out 0 k (by omega)
        have hp2 : 2 ^ k ≤ 2 ^ 32 := Nat.pow_le_pow_right (by decide) (by omega)
        by_cases hkl : k < m
        · have hj : 0 + k < s.size := by omega
          have hbb := byte_bit HB.out hj
          have hb1 := (bitN_byt HB.out hj).2
          have HE : Hid (eqN s 0 (k + 1) = eqN s 0 k ||| bitN s (0 + k) * 2 ^ k) := Lib.hid rfl
          simp only [Nat.zero_add] at hbb hb1 HE hj
          obtain ⟨b, HBt⟩ : ∃ b, Hid (bitN s k = b) := ⟨_, Lib.hid rfl⟩
          rw [HBt.out] at hbb hb1 HE
          obtain ⟨q, HQ⟩ : ∃ q, Hid (eqN s 0 k = q) := ⟨_, Lib.hid rfl⟩
          rw [HQ.out] at hq HE ⊢
          have hm : b * 2 ^ k ≤ 1 * 2 ^ k := Nat.mul_le_mul_right _ hb1
          have hm3 : b * 2 ^ k < 9223372036854775808 := by omega
          have HS := Lib.hid (shl_nat hm3)
          have HO := Lib.hid (i64_or_nat q (b * 2 ^ k) (by omega) hm3)
          have u1 : IntKind.u64.wrap (k : Int) = k := IntWalk.u64_in _ (by omega)
          clear hm hm3 hp2 hq
          go_wp2
          rw [HS.out, HO.out]
          go_round
          case rel => exact ⟨k + 1, by omega, by go_num, by rw [HE.out]⟩
          case measure => simp [intOf]; omega
        · have hke : k = m := by omega
          subst hke
          rw [HSt.out] at hq ⊢
          clear hq hp2
          go_wp2_with fail
          refine (hEq _).mono ?_
          rintro e w2 ⟨v, rfl, ho⟩
          have HO := Lib.hid ho
          clear ho hEq
          go_wp2_with fail
          refine (hLe _ _ _ _ HO.out).mono ?_
          rintro e w3 ⟨rfl, hb3⟩
          have K3 := (K1.out.later HO.out.below).later hb3
          have HB3 := Lib.hid (bw_call (bw_call HB1.out HO.out.below) hb3)
          have g0 := K3.cell 0 rfl
          have g1 := K3.cell 1 rfl
          have f0 := K3.free 0
          have f1 := K3.free 1
          clear hb3 hLe
          go_wp2
          refine bodyPost_ret (v := .tuple #[.agg #[.int .i64 (k : Nat), .int .i64 (L : Nat)], .int .i64 (S : Nat), .bool true]) (by simp [results, Tryd.results11, go_sem, g0, g1]) rfl ⟨rfl, ?_⟩
          refine bw_setCell (bw_setCell HB3.out ?_ _) ?_ _ <;> simp
    · have e : srB s = false := by unfold srB; rw [hf, decide_eq_false h16]; rfl
      obtain ⟨e1, e2, e3⟩ := sr_no e
      rw [e1, e2, e3, e]; clear e1 e2 e3 e hf
      obtain ⟨m, HM⟩ : ∃ m, Hid (shW s = m) := ⟨_, Lib.hid rfl⟩
      simp only [HM.out] at hSh hle h16 ⊢
      go_enter Tryd.func11, Tryd.ntmps11
      go_wp2_with (go_at_call 16; refine (hF _).mono ?_; rintro e w' ⟨rfl, rfl⟩)
      refine (hSh _).mono ?_
      rintro e w1 ⟨rfl, hb1⟩
      have K1 := (Blk.new w #[.int .i64 0, .int .i64 0] 29).later hb1
      have HB1 := Lib.hid (bw_call (bw_alloc (bw_refl w) _) hb1)
      have g0 := K1.cell 0 rfl
      have g1 := K1.cell 1 rfl
      have f0 := K1.free 0
      have f1 := K1.free 1
      clear hSh hF hb1
      go_wp2
      refine bodyPost_ret (v := .tuple #[.agg #[.int .i64 (0 : Nat), .int .i64 (0 : Nat)], .int .i64 (0 : Nat), .bool false]) (by simp [results, Tryd.results11, go_sem, g0, g1]) rfl ⟨rfl, ?_⟩
      refine bw_setCell (bw_setCell HB1.out ?_ _) ?_ _ <;> simp
end Go.Proofs.YtgcfibljepdkkaaDoor

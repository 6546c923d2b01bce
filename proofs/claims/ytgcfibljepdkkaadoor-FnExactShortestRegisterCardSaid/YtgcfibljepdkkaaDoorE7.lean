/-
  Contracts of the program's shortest, isShort, WidthsOf and ShortestRegister. Condition: the text's length.
-/
import Derived.Test.YtgcfibljepdkkaaDoorE6
namespace Go.Proofs.YtgcfibljepdkkaaDoor
open Go.RowKit
set_option linter.unusedVariables false

theorem isShort_any (s : ByteArray) (w : World) (hs : s.size ≤ 1048576) :
    Calls Tryd.prog 18 #[.string s] w fun e w' => e = .returned (.bool (fewB s)) ∧ Below w.heap.size w w' := by
  cases hb : bitsB s with
  | false =>
    have e : fewB s = false := by unfold fewB; rw [hb]; rfl
    rw [e]; clear e
    go_enter Tryd.func18, Tryd.ntmps18
    go_wp2_with (go_at_call 25; refine (IsBits_of hb _ hs).mono ?_; rintro e w' ⟨rfl, hb1⟩)
    go_ret
    exact ⟨rfl, hb1⟩
  | true =>
    have e : fewB s = decide (s.size ≤ 32) := by unfold fewB; rw [hb]; rfl
    by_cases h32 : s.size ≤ 32
    · rw [e, decide_eq_true h32]; clear e
      go_enter Tryd.func18, Tryd.ntmps18
      go_wp2_with (go_at_call 25; refine (IsBits_of hb _ hs).mono ?_; rintro e w' ⟨rfl, hb1⟩)
      go_ret
      exact ⟨ret_bool (by simp; omega), hb1⟩
    · rw [e, decide_eq_false h32]; clear e
      go_enter Tryd.func18, Tryd.ntmps18
      go_wp2_with (go_at_call 25; refine (IsBits_of hb _ hs).mono ?_; rintro e w' ⟨rfl, hb1⟩)
      go_ret
      exact ⟨ret_bool (by simp; omega), hb1⟩
set_option maxHeartbeats 1000000 in
theorem shortest_any (s : ByteArray) (w : World) (hb : BitsTo s s.size) (hs : s.size ≤ 32) :
    Calls Tryd.prog 19 #[.string s] w fun e w' => e = .returned (.tuple #[.int .i64 (shW s : Nat), .int .i64 (shL s : Nat)]) ∧ Below w.heap.size w w' := by
  have HB := Lib.hid hb
  have HS := Lib.hid (shW_is s)
  have HLe := Lib.hid (shL_is s)
  have hle := (shW_is s).le
  obtain ⟨L, HLL⟩ : ∃ L, Hid (shL s = L) := ⟨_, Lib.hid rfl⟩
  rw [HLL.out] at HLe ⊢
  obtain ⟨m, HM⟩ : ∃ m, Hid (shW s = m) := ⟨_, Lib.hid rfl⟩
  rw [HM.out] at HS hle HLe ⊢
  clear hb
  go_enter Tryd.func19, Tryd.ntmps19
  go_wp2
  go_loopw [4] (fun i wr => ∃ k : Nat, k ≤ m ∧ i = .int .i64 k ∧ Hid (Below w.heap.size w wr)) (fun i _ => m - (intOf i).toNat)
  case atStart => exact ⟨0, Nat.zero_le _, rfl, Lib.hid (bw_refl _)⟩
  case round =>
    obtain ⟨k, hk, rfl, hbl⟩ := hrel
    have hks : k ≤ s.size := by omega
    have hT := fun w1 => tapsFor_any s k w1 HB.out hs hks
    go_wp2_with fail
    refine (hT _).mono ?_
    clear hT
    rintro e w1 h
    rcases h with ⟨L', a1, rfl, a2⟩ | ⟨a1, rfl, a2⟩
    · have hkm : k = m := Nat.le_antisymm hk (Nat.le_of_not_lt fun c => HS.out.2 k c ⟨L', a1.sol⟩)
      subst hkm
      obtain rfl : L' = L := a1.unique HLe.out
      have A2 := Lib.hid (bw_call hbl.out a2)
      clear a1 a2
      go_wp2
      go_ret2
      exact ⟨rfl, A2.out⟩
    · have hkm : k < m := Nat.lt_of_le_of_ne hk fun c => a1 (by rw [c]; exact HS.out.1)
      have A2 := Lib.hid (bw_call hbl.out a2)
      clear a1 a2
      go_wp2
      go_roundw
      case rel => exact ⟨k + 1, by omega, by go_num, A2⟩
      case measure => simp [intOf]; omega
set_option maxHeartbeats 1000000 in
theorem WidthsOf_any (s : ByteArray) (w : World) (hs : s.size ≤ 1048576) :
    Calls Tryd.prog 7 #[.string s] w (RetL (wdR s) (fewB s) w) := by
  cases hf : fewB s with
  | false =>
    have e : wdR s = [] := by unfold wdR; rw [hf]; rfl
    rw [e]; clear e
    have hF : ∀ w1, Calls Tryd.prog 18 #[.string s] w1 fun e w' => e = .returned (.bool false) ∧ Below w1.heap.size w1 w' := fun w1 => by have := isShort_any s w1 hs; rwa [hf] at this
    go_enter Tryd.func7, Tryd.ntmps7
    go_wp2_with (go_at_call 18; refine (hF _).mono ?_; rintro e w' ⟨rfl, hb1⟩)
    go_ret2
    exact ⟨_, _, rfl, .inl rfl, hb1⟩
  | true =>
    have e : wdR s = wdL s s.size := by unfold wdR; rw [hf]; rfl
    rw [e]; clear e
    have hF : ∀ w1, Calls Tryd.prog 18 #[.string s] w1 fun e w' => e = .returned (.bool true) ∧ Below w1.heap.size w1 w' := fun w1 => by have := isShort_any s w1 hs; rwa [hf] at this
    obtain ⟨hb, h32⟩ := fewB_true hf
    have HB := Lib.hid hb
    clear hb hf
    go_enter Tryd.func7, Tryd.ntmps7
    go_wp2_with fail
    refine (hF _).mono ?_
    rintro e w1 ⟨rfl, hb1⟩
    have HB1 := Lib.hid hb1
    clear hb1 hF
    go_wp2
    go_loopw [4, 5] (fun v i wr => ∃ k : Nat, k ≤ s.size ∧ i = .int .i64 (k + 1 : Nat) ∧ Hid (OwnI .i64 w1.heap.size 2 w1 wr v (wdL s k))) (fun _ i _ => s.size + 1 - (intOf i).toNat)
    case atStart => exact ⟨0, Nat.zero_le _, rfl, Lib.hid (OwnI.made (bw_refl _) (Nat.le_refl _))⟩
    case round =>
      obtain ⟨k, hk, rfl, ho⟩ := hrel
      by_cases hlt : k < s.size
      · obtain ⟨hpb, hps⟩ := pre_bits HB.out (n := k + 1) (by omega)
        have HPB := Lib.hid hpb
        have HE := Lib.hid (wdL_succ s k)
        have HL : Hid ((wdL s k).length < 1000000000000) := Lib.hid (by rw [wdL_len]; omega)
        have hSh := fun w1 => shortest_any (s.extract 0 (k + 1)) w1 HPB.out (by omega)
        clear hpb hps
        obtain ⟨j, HJ⟩ : ∃ j, Hid (k + 1 = j) := ⟨_, Lib.hid rfl⟩
        simp only [HJ.out] at hSh HE HPB ⊢
        have hj := HJ.out
        have hj1 : j ≤ s.size := by omega
        have hj0 : 1 ≤ j := by omega
        clear hj
        obtain ⟨m, HM⟩ : ∃ m, Hid (shW (s.extract 0 j) = m) := ⟨_, Lib.hid rfl⟩
        obtain ⟨L, HLL⟩ : ∃ L, Hid (shL (s.extract 0 j) = L) := ⟨_, Lib.hid rfl⟩
        rw [HM.out] at HE
        simp only [HM.out, HLL.out] at hSh
        go_wp2_with (first | (go_at_call 19; refine (hSh _).mono ?_; rintro e w2 ⟨rfl, hb2⟩) | (at_builtin; refine wpApp tI rfl _ _ rfl rfl (ho.out.later hb2) rfl (by decide) HL.out ?_; intro v' w7 hown7))
        go_roundw
        case rel => exact ⟨k + 1, by omega, by rw [HJ.out]; go_num, Lib.hid (by rw [HJ.out, HE.out]; exact hown7)⟩
        case measure => simp [intOf]; omega
      · have hke : k = s.size := by omega
        subst hke
        have HH := Lib.hid ho.out.hasL
        have HBl := Lib.hid ho.out.below
        obtain ⟨g, cap, rfl⟩ := ho.out.2.2.2
        rw [wdL_len] at *
        have r1 : ¬ ((s.size + 1 : Nat) : Int) ≤ (s.size : Int) := by omega
        go_wp2
        go_ret2
        obtain ⟨a', c', hv, hh⟩ := HH.out
        simp only [Value.slice.injEq] at hv
        obtain ⟨rfl, _, rfl⟩ := hv
        exact ⟨_, _, by rw [wdL_len]; rfl, hh.mono HB1.out.size, bw_call HB1.out HBl.out⟩
theorem wdR_len (s : ByteArray) : (wdR s).length < 1000000000000 := by
  unfold wdR
  split
  · rename_i h; rw [wdL_len]; have := (fewB_true h).2; omega
  · simp
set_option maxHeartbeats 1000000 in
set_option maxRecDepth 100000 in
theorem ShortestRegister_any (s : ByteArray) (w : World) (hs : s.size ≤ 1048576) :
    Calls Tryd.prog 12 #[.string s] w (RegR (srW s) (srT s) (srS s) (srB s) w) := by
  cases hf : fewB s with
  | false =>
    obtain ⟨e1, e2, e3⟩ := sr_no (sr_few hf)
    rw [e1, e2, e3, sr_few hf]; clear e1 e2 e3
    have hF : ∀ w1, Calls Tryd.prog 18 #[.string s] w1 fun e w' => e = .returned (.bool false) ∧ Below w1.heap.size w1 w' := fun w1 => by have := isShort_any s w1 hs; rwa [hf] at this
    go_enter Tryd.func12, Tryd.ntmps12
    go_wp2_with fail
    refine (hF _).mono ?_
    rintro e w1 ⟨rfl, hb1⟩
    have K1 := (Blk.new w #[.int .i64 0, .int .i64 0] 29).later hb1
    have HB1 := Lib.hid (bw_call (bw_alloc (bw_refl w) _) hb1)
    have g0 := K1.cell 0 rfl
    have g1 := K1.cell 1 rfl
    have f0 := K1.free 0
    have f1 := K1.free 1
    clear hF hb1
    go_wp2
    refine bodyPost_ret (v := .tuple #[.agg #[.int .i64 (0 : Nat), .int .i64 (0 : Nat)], .int .i64 (0 : Nat), .bool false]) (by simp [results, Tryd.results12, go_sem, g0, g1]) rfl ⟨rfl, ?_⟩
    refine bw_setCell (bw_setCell HB1.out ?_ _) ?_ _ <;> simp
  | true =>
    have hF : ∀ w1, Calls Tryd.prog 18 #[.string s] w1 fun e w' => e = .returned (.bool true) ∧ Below w1.heap.size w1 w' := fun w1 => by have := isShort_any s w1 hs; rwa [hf] at this
    obtain ⟨hb, h32⟩ := fewB_true hf
    have HB := Lib.hid hb
    have hle := (shW_is s).le
    have hSh := fun w1 => shortest_any s w1 HB.out h32
    clear hb
    by_cases h16 : shW s ≤ 16
    · have e : srB s = true := by unfold srB; rw [hf, decide_eq_true h16]; rfl
      obtain ⟨e1, e2, e3⟩ := sr_yes e
      rw [e1, e2, e3, e]; clear e1 e2 e3 e hf
      obtain ⟨L, HL⟩ : ∃ L, Hid (shL s = L) := ⟨_, Lib.hid rfl⟩
      simp only [HL.out] at hSh ⊢
      obtain ⟨m, HM⟩ : ∃ m, Hid (shW s = m) := ⟨_, Lib.hid rfl⟩
      simp only [HM.out] at hSh hle h16 ⊢
      obtain ⟨S, HSt⟩ : ∃ S, Hid (eqN s 0 m = S) := ⟨_, Lib.hid rfl⟩
      simp only [HSt.out]
      go_enter Tryd.func12, Tryd.ntmps12
      go_wp2_with fail
      refine (hF _).mono ?_
      rintro e w1 ⟨rfl, hb1⟩
      have K1 := Lib.hid ((Blk.new w #[.int .i64 0, .int .i64 0] 29).later hb1)
      have HB1 := Lib.hid (bw_call (bw_alloc (bw_refl w) _) hb1)
      clear hF hb1
      go_wp2_with fail
      refine (hSh _).mono ?_
      rintro e w2 ⟨rfl, hb2⟩
      have K2 := Lib.hid (K1.out.later hb2)
      have HB2 := Lib.hid (bw_call HB1.out hb2)
      clear hSh hb2
      go_wp2
      go_loop [7, 22] (fun q i => ∃ k : Nat, k ≤ m ∧ i = .int .i64 k ∧ q = .int .i64 (eqN s 0 k : Nat)) (fun _ i => m - (intOf i).toNat)
      case atStart => exact ⟨0, Nat.zero_le _, rfl, rfl⟩
      case round =>
        obtain ⟨k, hk, rfl, rfl⟩ := hrel
        have hq := eqN_lt HB.out 0 k (by omega)
        have hp2 : 2 ^ k ≤ 2 ^ 32 := Nat.pow_le_pow_right (by decide) (by omega)
        by_cases hkl : k < m
        · have hj : 0 + k < s.size := by omega
          have hbb := byte_bit HB.out hj
          have hb1 := (bitN_byt HB.out hj).2
          have HE : Hid (eqN s 0 (k + 1) = eqN s 0 k ||| bitN s (0 + k) * 2 ^ k) := Lib.hid rfl
          simp only [Nat.zero_add] at hbb hb1 HE hj
          obtain ⟨b, HBt⟩ : ∃ b, Hid (bitN s k = b) := ⟨_, Lib.hid rfl⟩
          rw [HBt.out] at hbb hb1 HE
          obtain ⟨q, HQ⟩ : ∃ q, Hid (eqN s 0 k = q) := ⟨_, Lib.hid rfl⟩
          rw [HQ.out] at hq HE ⊢
          have hm : b * 2 ^ k ≤ 1 * 2 ^ k := Nat.mul_le_mul_right _ hb1
          have hm3 : b * 2 ^ k < 9223372036854775808 := by omega
          have HS := Lib.hid (shl_nat hm3)
          have HO := Lib.hid (i64_or_nat q (b * 2 ^ k) (by omega) hm3)
          clear hm hm3 hp2 hq
          go_wp2
          rw [HS.out, HO.out]
          go_round
          case rel => exact ⟨k + 1, by omega, by go_num, by rw [HE.out]⟩
          case measure => simp [intOf]; omega
        · have hke : k = m := by omega
          subst hke
          rw [HSt.out] at hq ⊢
          have g0 := K2.out.cell 0 rfl
          have g1 := K2.out.cell 1 rfl
          have f0 := K2.out.free 0
          have f1 := K2.out.free 1
          clear hq hp2
          go_wp2
          refine bodyPost_ret (v := .tuple #[.agg #[.int .i64 (k : Nat), .int .i64 (L : Nat)], .int .i64 (S : Nat), .bool true]) (by simp [results, Tryd.results12, go_sem, g0, g1]) rfl ⟨rfl, ?_⟩
          refine bw_setCell (bw_setCell HB2.out ?_ _) ?_ _ <;> simp
    · have e : srB s = false := by unfold srB; rw [hf, decide_eq_false h16]; rfl
      obtain ⟨e1, e2, e3⟩ := sr_no e
      rw [e1, e2, e3, e]; clear e1 e2 e3 e hf
      obtain ⟨m, HM⟩ : ∃ m, Hid (shW s = m) := ⟨_, Lib.hid rfl⟩
      simp only [HM.out] at hSh hle h16 ⊢
      go_enter Tryd.func12, Tryd.ntmps12
      go_wp2_with fail
      refine (hF _).mono ?_
      rintro e w1 ⟨rfl, hb1⟩
      have K1 := Lib.hid ((Blk.new w #[.int .i64 0, .int .i64 0] 29).later hb1)
      have HB1 := Lib.hid (bw_call (bw_alloc (bw_refl w) _) hb1)
      clear hF hb1
      go_wp2_with fail
      refine (hSh _).mono ?_
      rintro e w2 ⟨rfl, hb2⟩
      have K2 := K1.out.later hb2
      have HB2 := Lib.hid (bw_call HB1.out hb2)
      have g0 := K2.cell 0 rfl
      have g1 := K2.cell 1 rfl
      have f0 := K2.free 0
      have f1 := K2.free 1
      clear hSh hb2
      go_wp2
      refine bodyPost_ret (v := .tuple #[.agg #[.int .i64 (0 : Nat), .int .i64 (0 : Nat)], .int .i64 (0 : Nat), .bool false]) (by simp [results, Tryd.results12, go_sem, g0, g1]) rfl ⟨rfl, ?_⟩
      refine bw_setCell (bw_setCell HB2.out ?_ _) ?_ _ <;> simp
end Go.Proofs.YtgcfibljepdkkaaDoor

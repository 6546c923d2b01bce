/-
  Contracts of RunLengths: the program's and the reference's give the same. No condition but the length of the texts.
-/
import Derived.Test.YtpppdlgmhedaeaaDoorB4
namespace Go.Proofs.YtpppdlgmhedaeaaDoor
open Go.RowKit
set_option linter.unusedVariables false

/-- The last element one greater. -/
def bump (l : List Int) : List Int := l.set (l.length - 1) (l.getD (l.length - 1) 0 + 1)
theorem bump_len (l : List Int) : (bump l).length = l.length := by simp [bump]
theorem bump_snoc (l : List Int) (x : Int) : bump (l ++ [x]) = l ++ [x + 1] := by
  simp [bump]
/-- A run begins at place k. -/
def newRun (s : ByteArray) (k : Nat) : Bool := decide (k = 0) || decide (byt s (k - 1) ≠ byt s k)
/-- The lengths of the runs of the first k bytes. -/
def runL (s : ByteArray) : Nat → List Int
  | 0 => []
  | k + 1 => if newRun s k = true then runL s k ++ [1] else bump (runL s k)
theorem runL_len (s : ByteArray) : ∀ k, (runL s k).length ≤ k ∧ (0 < k → 0 < (runL s k).length)
  | 0 => by simp [runL]
  | k + 1 => by
    have h := runL_len s k
    simp only [runL]
    split
    · simp; omega
    · rename_i hn
      rw [bump_len]
      have : k ≠ 0 := fun e => hn (by simp [newRun, e])
      omega
theorem runL_bd (s : ByteArray) : ∀ k, ∀ x ∈ runL s k, 1 ≤ x ∧ x ≤ (k : Int)
  | 0 => by simp [runL]
  | k + 1 => by
    have h := runL_bd s k
    have hl := runL_len s k
    simp only [runL]
    split
    · intro x hx
      rcases List.mem_append.1 hx with h' | h'
      · have := h x h'; omega
      · simp at h'; omega
    · rename_i hn
      have h0 : k ≠ 0 := fun e => hn (by simp [newRun, e])
      intro x hx
      rcases List.mem_or_eq_of_mem_set hx with h' | h'
      · have := h x h'; omega
      · have hm : (runL s k).getD ((runL s k).length - 1) 0 ∈ runL s k := by
          rw [List.getD_eq_getElem?_getD, List.getElem?_eq_getElem (by omega)]
          exact List.getElem_mem _
        have := h _ hm
        omega
noncomputable def rnR (s : ByteArray) : List Int := if bitsB s = true then runL s s.size else []
theorem rnR_len (s : ByteArray) : (rnR s).length < 1000000000000 := by
  unfold rnR
  split
  · rename_i h
    have := bitsB_true h
    have := (runL_len s s.size).1
    omega
  · simp
set_option maxRecDepth 100000 in
theorem l01Runs_any (s : ByteArray) (w : World) (hs : s.size ≤ 400) :
    Calls Tryd.prog 57 #[.string s] w fun e w' => RetL1 (runL s s.size) w e w' := by
  go_enter Tryd.func57, Tryd.ntmps57
  go_wp2
  go_loopw [3, 4] (fun v i wr => ∃ k : Nat, k ≤ s.size ∧ i = .int .i64 k ∧ Hid (OwnI .i64 w.heap.size 2 w wr v (runL s k))) (fun _ i _ => s.size - (intOf i).toNat)
  case atStart => exact ⟨0, Nat.zero_le _, rfl, Lib.hid (OwnI.made (bw_refl _) (Nat.le_refl _))⟩
  case round =>
    obtain ⟨k, hk, rfl, ho⟩ := hrel
    by_cases hlt : k < s.size
    · have hlen := runL_len s k
      obtain ⟨n, HN⟩ : ∃ n, Hid ((runL s k).length = n) := ⟨_, Lib.hid rfl⟩
      have hn1 : n ≤ 400 := by rw [← HN.out]; omega
      cases hn : newRun s k with
      | true =>
        have HS := Lib.hid (show runL s (k + 1) = runL s k ++ [1] by simp [runL, hn])
        have HL := Lib.hid (show (runL s k).length < 1000000000000 by omega)
        have HR : Hid (newRun s k = true) := Lib.hid hn
        clear hlen hn
        by_cases h0 : k = 0
        · subst h0
          go_wp2
          go_quiet (fail)
          go_wp2_with (at_builtin; refine wpApp1 tI rfl _ _ rfl rfl (ho.out.drewN _) rfl (by decide) HL.out (n + 1) (by rw [HN.out]) ?_; intro g cap w1 hown1; refine Hid.out ?_)
          refine Lib.hid ?_
          have HO := Lib.hid hown1
          clear hown1
          obtain ⟨_, _, hv, _, _, _, _, h5, h6⟩ := HO.out.cell
          simp only [Value.slice.injEq, Option.some.injEq, Addr.mk.injEq, and_true] at hv
          obtain ⟨rfl, -, rfl⟩ := hv
          have q1 := h5 n (by simp [HN.out])
          have q2 := h6 n
          have e0 : (runL s 0 ++ [0]).getD n (0 : Int) = (0 : Int) := by rw [← HN.out]; simp
          rw [e0] at q1
          have HT : Hid (OwnI .i64 w.heap.size 2 w (w1.setCell ⟨g, n, none⟩ (.int .i64 1)) (.slice (some ⟨g, 0, none⟩) (n + 1) cap) (runL s (0 + 1))) := Lib.hid (by
            have h := HO.out
            have e : (runL s 0 ++ [0]).length = n + 1 := by simp [HN.out]
            rw [← e] at h ⊢
            have e2 : runL s (0 + 1) = (runL s 0 ++ [0]).set n 1 := by rw [HS.out, ← HN.out]; simp
            rw [e2]
            exact h.stored _ _)
          clear h5 h6
          go_wp2
          go_roundw
          case rel => exact ⟨0 + 1, by omega, by go_num, HT⟩
          case measure => simp [intOf]; omega
        · have hk1 : k - 1 < s.size := by omega
          have hne : ((s[k - 1].toNat : Int) != (s[k].toNat : Int)) = true := by
            have := HR.out
            simp only [newRun, h0, decide_false, Bool.false_or, decide_eq_true_eq] at this
            rw [byt_at s hk1, byt_at s hlt] at this
            exact bne_iff_ne.2 this
          have hne' : ((s[k].toNat : Int) != (s[k - 1].toNat : Int)) = true := by
            rw [bne_iff_ne] at hne ⊢
            exact fun e => hne e.symm
          have hz : ((k : Int) == 0) = false := beq_eq_false_iff_ne.2 (by omega)
          have hk2 : (k : Int) - 1 = ((k - 1 : Nat) : Int) := by omega
          obtain ⟨k', HK⟩ : ∃ k', Hid (k - 1 = k') := ⟨_, Lib.hid rfl⟩
          simp only [HK.out] at hne hne' hk2 hk1
          go_wp2
          go_quiet (fail)
          go_wp2_with (at_builtin; refine wpApp1 tI rfl _ _ rfl rfl (ho.out.drewN _) rfl (by decide) HL.out (n + 1) (by rw [HN.out]) ?_; intro g cap w1 hown1; refine Hid.out ?_)
          refine Lib.hid ?_
          have HO := Lib.hid hown1
          clear hown1
          obtain ⟨_, _, hv, _, _, _, _, h5, h6⟩ := HO.out.cell
          simp only [Value.slice.injEq, Option.some.injEq, Addr.mk.injEq, and_true] at hv
          obtain ⟨rfl, -, rfl⟩ := hv
          have q1 := h5 n (by simp [HN.out])
          have q2 := h6 n
          have e0 : (runL s k ++ [0]).getD n (0 : Int) = (0 : Int) := by rw [← HN.out]; simp
          rw [e0] at q1
          have HT : Hid (OwnI .i64 w.heap.size 2 w (w1.setCell ⟨g, n, none⟩ (.int .i64 1)) (.slice (some ⟨g, 0, none⟩) (n + 1) cap) (runL s (k + 1))) := Lib.hid (by
            have h := HO.out
            have e : (runL s k ++ [0]).length = n + 1 := by simp [HN.out]
            rw [← e] at h ⊢
            have e2 : runL s (k + 1) = (runL s k ++ [0]).set n 1 := by rw [HS.out, ← HN.out]; simp
            rw [e2]
            exact h.stored _ _)
          clear h5 h6
          go_wp2
          go_roundw
          case rel => exact ⟨k + 1, by omega, by go_num, HT⟩
          case measure => simp [intOf]; omega
      | false =>
        have h0 : k ≠ 0 := fun e => by simp [newRun, e] at hn
        have HS := Lib.hid (show runL s (k + 1) = bump (runL s k) by simp [runL, hn])
        have hk1 : k - 1 < s.size := by omega
        have hne : ((s[k - 1].toNat : Int) != (s[k].toNat : Int)) = false := by
          simp only [newRun, h0, decide_false, Bool.false_or, decide_eq_false_iff_not, Decidable.not_not] at hn
          rw [byt_at s hk1, byt_at s hlt] at hn
          rw [hn]; simp
        have hne' : ((s[k].toNat : Int) != (s[k - 1].toNat : Int)) = false := by
          rw [bne_eq_false_iff_eq] at hne ⊢
          exact hne.symm
        have hz : ((k : Int) == 0) = false := beq_eq_false_iff_ne.2 (by omega)
        have hk2 : (k : Int) - 1 = ((k - 1 : Nat) : Int) := by omega
        have hn0 : 1 ≤ n := by rw [← HN.out]; omega
        have hbd := runL_bd s k
        obtain ⟨k', HK⟩ : ∃ k', Hid (k - 1 = k') := ⟨_, Lib.hid rfl⟩
        simp only [HK.out] at hne hne' hk2 hk1
        obtain ⟨g, cap, hv, _, _, _, _, h5, h6⟩ := ho.out.cell
        subst hv
        obtain ⟨x, HX⟩ : ∃ x, Hid ((runL s k).getD (n - 1) 0 = x) := ⟨_, Lib.hid rfl⟩
        have q1 := h5 (n - 1) (by rw [HN.out]; omega)
        have q2 := h6 (n - 1)
        have hx : 1 ≤ x ∧ x ≤ 400 := by
          have hm : (runL s k).getD (n - 1) 0 ∈ runL s k := by
            rw [List.getD_eq_getElem?_getD, List.getElem?_eq_getElem (by rw [HN.out]; omega)]
            exact List.getElem_mem _
          have := hbd _ hm
          rw [HX.out] at this; omega
        rw [HX.out] at q1
        rw [HN.out] at ho ⊢
        have HT : Hid (∀ wq, OwnI .i64 w.heap.size 2 w wq (.slice (some ⟨g, 0, none⟩) n cap) (runL s k) → OwnI .i64 w.heap.size 2 w (wq.setCell ⟨g, n - 1, none⟩ (.int .i64 (x + 1))) (.slice (some ⟨g, 0, none⟩) n cap) (runL s (k + 1))) := Lib.hid fun wq h => by
          have e : runL s (k + 1) = (runL s k).set (n - 1) (x + 1) := by rw [HS.out, bump, HN.out, HX.out]
          rw [e]
          rw [← HN.out] at h ⊢
          exact h.stored _ _
        clear h5 h6 hbd hlen hn
        obtain ⟨m, hm⟩ : ∃ m, n - 1 = m := ⟨_, rfl⟩
        have hnm : n = m + 1 := by omega
        subst hnm
        simp only [Nat.add_sub_cancel] at q1 q2 HT
        clear hm
        have HQ := Lib.hid q1
        clear q1
        go_wp2
        go_quiet (fail)
        have q1 := HQ.out
        go_wp2
        go_roundw
        case rel => exact ⟨k + 1, by omega, by go_num, Lib.hid (HT.out _ (ho.out.drewN _))⟩
        case measure => simp [intOf]; omega
    · have hke : k = s.size := by omega
      subst hke
      obtain ⟨a', c', hv, hh⟩ := ho.out.hasL
      have HW := Lib.hid ho.out.below
      have HH := Lib.hid hh
      have HV := Lib.hid hv
      clear hh hv
      go_wp2
      go_ret
      exact ⟨a', c', by rw [← HV.out]; rfl, HH.out, HW.out⟩
set_option maxRecDepth 100000 in
theorem runs_any (s : ByteArray) (w : World) (hs : s.size ≤ 400) :
    Calls Tryd.prog 58 #[.string s] w fun e w' => RetL1 (runL s s.size) w e w' := by
  go_enter Tryd.func58, Tryd.ntmps58
  go_wp2
  go_loopw [3, 8] (fun v i wr => ∃ k : Nat, k ≤ s.size ∧ i = .int .i64 k ∧ Hid (OwnI .i64 w.heap.size 2 w wr v (runL s k))) (fun _ i _ => s.size - (intOf i).toNat)
  case atStart => exact ⟨0, Nat.zero_le _, rfl, Lib.hid (OwnI.made (bw_refl _) (Nat.le_refl _))⟩
  case round =>
    obtain ⟨k, hk, rfl, ho⟩ := hrel
    by_cases hlt : k < s.size
    · have hlen := runL_len s k
      obtain ⟨n, HN⟩ : ∃ n, Hid ((runL s k).length = n) := ⟨_, Lib.hid rfl⟩
      have hn1 : n ≤ 400 := by rw [← HN.out]; omega
      cases hn : newRun s k with
      | true =>
        have HS := Lib.hid (show runL s (k + 1) = runL s k ++ [1] by simp [runL, hn])
        have HL := Lib.hid (show (runL s k).length < 1000000000000 by omega)
        have HR : Hid (newRun s k = true) := Lib.hid hn
        clear hlen hn
        by_cases h0 : k = 0
        · subst h0
          go_wp2
          go_quiet (fail)
          go_wp2_with (at_builtin; refine wpApp1 tI rfl _ _ rfl rfl (ho.out.drewN _) rfl (by decide) HL.out (n + 1) (by rw [HN.out]) ?_; intro g cap w1 hown1; refine Hid.out ?_)
          refine Lib.hid ?_
          have HO := Lib.hid hown1
          clear hown1
          obtain ⟨_, _, hv, _, _, _, _, h5, h6⟩ := HO.out.cell
          simp only [Value.slice.injEq, Option.some.injEq, Addr.mk.injEq, and_true] at hv
          obtain ⟨rfl, -, rfl⟩ := hv
          have q1 := h5 n (by simp [HN.out])
          have q2 := h6 n
          have e0 : (runL s 0 ++ [0]).getD n (0 : Int) = (0 : Int) := by rw [← HN.out]; simp
          rw [e0] at q1
          have HT : Hid (OwnI .i64 w.heap.size 2 w (w1.setCell ⟨g, n, none⟩ (.int .i64 1)) (.slice (some ⟨g, 0, none⟩) (n + 1) cap) (runL s (0 + 1))) := Lib.hid (by
            have h := HO.out
            have e : (runL s 0 ++ [0]).length = n + 1 := by simp [HN.out]
            rw [← e] at h ⊢
            have e2 : runL s (0 + 1) = (runL s 0 ++ [0]).set n 1 := by rw [HS.out, ← HN.out]; simp
            rw [e2]
            exact h.stored _ _)
          clear h5 h6
          go_wp2
          go_roundw
          case rel => exact ⟨0 + 1, by omega, by go_num, HT⟩
          case measure => simp [intOf]; omega
        · have hk1 : k - 1 < s.size := by omega
          have hne : ((s[k - 1].toNat : Int) != (s[k].toNat : Int)) = true := by
            have := HR.out
            simp only [newRun, h0, decide_false, Bool.false_or, decide_eq_true_eq] at this
            rw [byt_at s hk1, byt_at s hlt] at this
            exact bne_iff_ne.2 this
          have hne' : ((s[k].toNat : Int) != (s[k - 1].toNat : Int)) = true := by
            rw [bne_iff_ne] at hne ⊢
            exact fun e => hne e.symm
          have hz : ((k : Int) == 0) = false := beq_eq_false_iff_ne.2 (by omega)
          have hk2 : (k : Int) - 1 = ((k - 1 : Nat) : Int) := by omega
          obtain ⟨k', HK⟩ : ∃ k', Hid (k - 1 = k') := ⟨_, Lib.hid rfl⟩
          simp only [HK.out] at hne hne' hk2 hk1
          go_wp2
          go_quiet (fail)
          go_wp2_with (at_builtin; refine wpApp1 tI rfl _ _ rfl rfl (ho.out.drewN _) rfl (by decide) HL.out (n + 1) (by rw [HN.out]) ?_; intro g cap w1 hown1; refine Hid.out ?_)
          refine Lib.hid ?_
          have HO := Lib.hid hown1
          clear hown1
          obtain ⟨_, _, hv, _, _, _, _, h5, h6⟩ := HO.out.cell
          simp only [Value.slice.injEq, Option.some.injEq, Addr.mk.injEq, and_true] at hv
          obtain ⟨rfl, -, rfl⟩ := hv
          have q1 := h5 n (by simp [HN.out])
          have q2 := h6 n
          have e0 : (runL s k ++ [0]).getD n (0 : Int) = (0 : Int) := by rw [← HN.out]; simp
          rw [e0] at q1
          have HT : Hid (OwnI .i64 w.heap.size 2 w (w1.setCell ⟨g, n, none⟩ (.int .i64 1)) (.slice (some ⟨g, 0, none⟩) (n + 1) cap) (runL s (k + 1))) := Lib.hid (by
            have h := HO.out
            have e : (runL s k ++ [0]).length = n + 1 := by simp [HN.out]
            rw [← e] at h ⊢
            have e2 : runL s (k + 1) = (runL s k ++ [0]).set n 1 := by rw [HS.out, ← HN.out]; simp
            rw [e2]
            exact h.stored _ _)
          clear h5 h6
          go_wp2
          go_roundw
          case rel => exact ⟨k + 1, by omega, by go_num, HT⟩
          case measure => simp [intOf]; omega
      | false =>
        have h0 : k ≠ 0 := fun e => by simp [newRun, e] at hn
        have HS := Lib.hid (show runL s (k + 1) = bump (runL s k) by simp [runL, hn])
        have hk1 : k - 1 < s.size := by omega
        have hne : ((s[k - 1].toNat : Int) != (s[k].toNat : Int)) = false := by
          simp only [newRun, h0, decide_false, Bool.false_or, decide_eq_false_iff_not, Decidable.not_not] at hn
          rw [byt_at s hk1, byt_at s hlt] at hn
          rw [hn]; simp
        have hne' : ((s[k].toNat : Int) != (s[k - 1].toNat : Int)) = false := by
          rw [bne_eq_false_iff_eq] at hne ⊢
          exact hne.symm
        have hz : ((k : Int) == 0) = false := beq_eq_false_iff_ne.2 (by omega)
        have hk2 : (k : Int) - 1 = ((k - 1 : Nat) : Int) := by omega
        have hn0 : 1 ≤ n := by rw [← HN.out]; omega
        have hbd := runL_bd s k
        obtain ⟨k', HK⟩ : ∃ k', Hid (k - 1 = k') := ⟨_, Lib.hid rfl⟩
        simp only [HK.out] at hne hne' hk2 hk1
        obtain ⟨g, cap, hv, _, _, _, _, h5, h6⟩ := ho.out.cell
        subst hv
        obtain ⟨x, HX⟩ : ∃ x, Hid ((runL s k).getD (n - 1) 0 = x) := ⟨_, Lib.hid rfl⟩
        have q1 := h5 (n - 1) (by rw [HN.out]; omega)
        have q2 := h6 (n - 1)
        have hx : 1 ≤ x ∧ x ≤ 400 := by
          have hm : (runL s k).getD (n - 1) 0 ∈ runL s k := by
            rw [List.getD_eq_getElem?_getD, List.getElem?_eq_getElem (by rw [HN.out]; omega)]
            exact List.getElem_mem _
          have := hbd _ hm
          rw [HX.out] at this; omega
        rw [HX.out] at q1
        rw [HN.out] at ho ⊢
        have HT : Hid (∀ wq, OwnI .i64 w.heap.size 2 w wq (.slice (some ⟨g, 0, none⟩) n cap) (runL s k) → OwnI .i64 w.heap.size 2 w (wq.setCell ⟨g, n - 1, none⟩ (.int .i64 (x + 1))) (.slice (some ⟨g, 0, none⟩) n cap) (runL s (k + 1))) := Lib.hid fun wq h => by
          have e : runL s (k + 1) = (runL s k).set (n - 1) (x + 1) := by rw [HS.out, bump, HN.out, HX.out]
          rw [e]
          rw [← HN.out] at h ⊢
          exact h.stored _ _
        clear h5 h6 hbd hlen hn
        obtain ⟨m, hm⟩ : ∃ m, n - 1 = m := ⟨_, rfl⟩
        have hnm : n = m + 1 := by omega
        subst hnm
        simp only [Nat.add_sub_cancel] at q1 q2 HT
        clear hm
        have HQ := Lib.hid q1
        clear q1
        go_wp2
        go_quiet (fail)
        have q1 := HQ.out
        go_wp2
        go_roundw
        case rel => exact ⟨k + 1, by omega, by go_num, Lib.hid (HT.out _ (ho.out.drewN _))⟩
        case measure => simp [intOf]; omega
    · have hke : k = s.size := by omega
      subst hke
      obtain ⟨a', c', hv, hh⟩ := ho.out.hasL
      have HW := Lib.hid ho.out.below
      have HH := Lib.hid hh
      have HV := Lib.hid hv
      clear hh hv
      go_wp2
      go_ret
      exact ⟨a', c', by rw [← HV.out]; rfl, HH.out, HW.out⟩
theorem sRunLengths_any (s : ByteArray) (w : World) (hs : s.size ≤ 1048576) :
    Calls Tryd.prog 27 #[.string s] w fun e w' => RetL (rnR s) (bitsB s) w e w' := by
  cases h1 : bitsB s with
  | false =>
    have en : rnR s = [] := by simp [rnR, h1]
    rw [en]; clear en
    go_enter Tryd.func27, Tryd.ntmps27
    go_wp2_with (go_at_call 49; refine (l01Bits_of h1 _ hs).mono ?_; rintro e w' ⟨rfl, rfl⟩)
    go_ret2
    exact ⟨none, 0, rfl, HasL.nil _ _ _ _, bw_refl _⟩
  | true =>
    have en : rnR s = runL s s.size := by simp [rnR, h1]
    have bs := bitsB_true h1
    rw [en]; clear en
    go_enter Tryd.func27, Tryd.ntmps27
    go_wp2_with (first | (go_at_call 49; refine (l01Bits_of h1 _ hs).mono ?_; rintro e w' ⟨rfl, rfl⟩) | (go_at_call 57; refine (l01Runs_any s _ bs.2).mono ?_; rintro e w' ⟨a, c, rfl, hh, hb1⟩))
    go_ret2
    exact ⟨a, c, rfl, hh, hb1⟩
theorem RunLengths_any (s : ByteArray) (w : World) (hs : s.size ≤ 1048576) :
    Calls Tryd.prog 28 #[.string s] w fun e w' => RetL (rnR s) (bitsB s) w e w' := by
  cases h1 : bitsB s with
  | false =>
    have en : rnR s = [] := by simp [rnR, h1]
    rw [en]; clear en
    go_enter Tryd.func28, Tryd.ntmps28
    go_wp2_with (go_at_call 18; refine (IsBits_of h1 _ hs).mono ?_; rintro e w1 ⟨rfl, hb0⟩)
    go_ret2
    exact ⟨none, 0, rfl, HasL.nil _ _ _ _, hb0⟩
  | true =>
    have en : rnR s = runL s s.size := by simp [rnR, h1]
    have bs := bitsB_true h1
    rw [en]; clear en
    go_enter Tryd.func28, Tryd.ntmps28
    go_wp2_with (first | (go_at_call 18; refine (IsBits_of h1 _ hs).mono ?_; rintro e w1 ⟨rfl, hb0⟩) | (go_at_call 58; refine (runs_any s _ bs.2).mono ?_; rintro e w' ⟨a, c, rfl, hh, hb1⟩))
    go_ret2
    exact ⟨a, c, rfl, hh.mono hb0.size, bw_call hb0 hb1⟩
end Go.Proofs.YtpppdlgmhedaeaaDoor

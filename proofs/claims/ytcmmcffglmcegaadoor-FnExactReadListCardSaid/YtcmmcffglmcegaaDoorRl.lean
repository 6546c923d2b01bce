/-
  Reading a list's text: both sides give the numbers between the commas, if all are some. Condition for the program's: the library's listed variables lie as their initialisers lay them, and the library's greatest length is some number.
-/
import Derived.Test.YtcmmcffglmcegaaDoorM15
import Derived.Test.YtcmmcffglmcegaaDoorLst
import Derived.Test.YtcmmcffglmcegaaDoorReg
import Derived.Test.YtcmmcffglmcegaaDoorRf
import Derived.Maps.AppendAt
namespace Go.Proofs.YtcmmcffglmcegaaDoor
open Go.RowKit
set_option linter.unusedVariables false

/-- 'append(v, z)', told besides which blocks stand and where the new slice lies. -/
theorem wpAppF {P : Program} {t e : TypeId} {k : IntKind} {bytes : Nat} (T : SliceT P t e k bytes) {ops : Array Oper} {rest : List Oper} {o : Oper} {a : Act} {Q : Exit → Act → World → Prop} (hgd : o.guard = none) (s x : Operand)
    (ho : o.op = .call { callee := .builtin .append, args := #[s, x], argTypes := #[t, t] })
    {base : Nat} {W wr : World} {v : Value} {xs : List Int} {z : Int} {e' : TypeId} (hs : a.eval s = v) (hown : OwnI k base e W wr v xs)
    (hx : a.eval x = .slice (some ⟨wr.heap.size, 0, none⟩) 1 1) (hb : bytes ≤ 8) (hn : xs.length < 1000000000000)
    (h : ∀ v' w', OwnI k base e W w' v' (xs ++ [z]) → wr.heap.size ≤ w'.heap.size → (∀ b, b < wr.heap.size → v.ownBlock ≠ some b → w'.heap[b]? = wr.heap[b]?) → (v'.ownBlock = v.ownBlock ∨ v'.ownBlock = some (wr.heap.size + 1)) → wpList P ops Q rest (a.put o.dst v') w') : wpList P ops Q (o :: rest) a (wr.alloc (.cells #[.int k z] e')) := by
  obtain ⟨i, hi, hz0, hz1, hz2⟩ := T.info
  have h1 := hown.1.alloc (.cells #[.int k z] e')
  refine wpList_append_own_at _ hgd s x t ho base e i (.int k 0) 1 bytes T.under hi hz0 hz1 hz2 rfl (by decide) v _ _ hs h1 ⟨wr.heap.size, 0, none⟩ 1 1 [.int k z] hx rfl ?_ ?_ ?_ ?_ ?_ ?_
  · intro j u hj
    match j, hj with
    | 0, hj =>
      simp at hj; subst hj
      show (wr.alloc (.cells #[.int k z] e')).cell? ⟨wr.heap.size, 0, none⟩ = _
      rw [cell_of_row _ _ _ _ _ _ (heap_alloc_new wr _)]; rfl
    | j + 1, hj => simp at hj
  · intro u hu; simp at hu; subst hu; rfl
  · unfold maxLen; omega
  · have : (xs.length + 1) * bytes ≤ 1000000000000 * 8 := Nat.mul_le_mul (by omega) hb
    omega
  · have := hown.2.2.1; simp; omega
  · intro v' w' hown' hgrow hnil hblk
    have hsize := hgrow.size
    simp at hsize
    refine h v' w' ⟨by simpa using hown', ?_, ?_, ?_⟩ (by omega) (fun b hb hne => ?_) (by simpa using hblk)
    · exact (hown.2.1.alloc hown.2.2.1 _).grown hgrow (by have := hown.2.2.1; simp; omega) fun k' hk' => (h1.lt k' hk').1
    · have h3 := hown.2.2.1; omega
    · rcases hown'.2 with ⟨h', _⟩ | ⟨g', cap', cur, h', _⟩
      · obtain ⟨g, cap, hv⟩ := hown.2.2.2
        have := (hnil.1 h').1
        rw [hv] at this; simp at this
      · exact ⟨g', cap', by simpa using h'⟩
    · have h2 := hgrow.block b (by simp; omega) (Ne.symm hne)
      rw [h2]
      exact (bw_alloc (bw_refl wr) (.cells #[.int k z] e')).block b hb

theorem ap_get {s p : ByteArray} {done r : List ByteArray} (h : AP s 0 = done ++ p :: r) : p ∈ AP s 0 := by rw [h]; exact List.mem_append_right _ List.mem_cons_self

set_option maxRecDepth 100000 in
set_option maxHeartbeats 1000000 in
theorem l01Numbers_any (s : ByteArray) (w : World) (hs : s.size ≤ 1048576) :
    Calls Tryd.prog 48 #[.string s] w fun e w' => RetL (rlL s) (rlB s) w e w' := by
  by_cases hnone : s = ⟨#[110, 111, 110, 101]⟩
  · obtain ⟨e1, e2⟩ := rl_none hnone
    rw [e1, e2]
    subst hnone
    clear e1 e2
    go_enter Tryd.func48, Tryd.ntmps48
    go_wp2
    go_loopw [4, 5, 6] (fun v f i wr => f = .int .i64 0 ∧ i = .int .i64 0 ∧ v = .slice (some ⟨w.heap.size, 0, none⟩) 0 0 ∧ Below w.heap.size w wr) (fun _ _ _ _ => 0)
    case atStart => exact ⟨rfl, rfl, rfl, bw_alloc (bw_refl _) _⟩
    case round =>
      obtain ⟨rfl, rfl, rfl, hb⟩ := hrel
      go_wp2
      go_ret2
      exact ⟨some ⟨w.heap.size, 0, none⟩, 0, rfl, HasL.nil _ _ _ _, hb⟩
  · have hne : (s.toList == [110, 111, 110, 101]) = false := beq_eq_false_iff_ne.2 fun h => hnone (bytes_inj (by rw [← Lib.toList_data, h]))
    go_enter Tryd.func48, Tryd.ntmps48
    go_wp2
    go_loopw [4, 5, 6] (fun v f i wr => ∃ (fn iN : Nat) (done : List ByteArray), f = .int .i64 fn ∧ i = .int .i64 iN ∧ Hid (done.length ≤ 64 ∧ (∀ p ∈ done, rdB 1000000000000000 p = true) ∧ fn ≤ iN ∧ ((iN ≤ s.size ∧ AP s 0 = done ++ AP s fn ∧ ∀ j (hj : j < s.size), fn ≤ j → j < iN → s[j].toNat ≠ 44) ∨ (iN = s.size + 1 ∧ AP s 0 = done))) ∧ Hid (OwnI .i64 w.heap.size 2 w wr v (done.map (rdV 1000000000000000)))) (fun _ _ i _ => s.size + 2 - (intOf i).toNat)
    case atStart => exact ⟨0, 0, [], rfl, rfl, Lib.hid ⟨by simp, by simp, Nat.le_refl _, .inl ⟨Nat.zero_le _, by simp, fun j hj h1 h2 => by omega⟩⟩, Lib.hid (OwnI.made (bw_refl _) (Nat.le_refl _))⟩
    case round =>
      obtain ⟨f, i, done, rfl, rfl, hst, ho⟩ := hrel
      by_cases hend : i = s.size + 1
      · subst hend
        obtain ⟨d1, d2, d3, ⟨d4, _⟩ | ⟨_, d4⟩⟩ := hst.out
        · omega
        · obtain ⟨e1, e2⟩ := rl_all hnone (by rw [d4]; exact d1) (by rw [d4]; exact d2)
          rw [d4] at e2
          obtain ⟨a', c', hv, hh⟩ := ho.out.hasL
          have HW := Lib.hid ho.out.below
          have HH := Lib.hid hh
          have HV := Lib.hid hv
          have E1 := Lib.hid e1
          have E2 := Lib.hid e2
          clear hh hv e1 e2 d1 d2 d3 d4
          go_wp2
          go_ret2
          exact ⟨a', c', by rw [E1.out, E2.out, ← HV.out]; rfl, by rw [E2.out]; exact HH.out, HW.out⟩
      · have hst' : i ≤ s.size ∧ f ≤ i ∧ done.length ≤ 64 := by
          obtain ⟨d1, d2, d3, ⟨d4, _⟩ | ⟨d4, _⟩⟩ := hst.out
          · exact ⟨d4, d3, d1⟩
          · omega
        have HP : Hid (AP s 0 = done ++ AP s f ∧ ∀ j (hj : j < s.size), f ≤ j → j < i → s[j].toNat ≠ 44) := Lib.hid (by
          obtain ⟨d1, d2, d3, ⟨_, d4⟩ | ⟨d4, _⟩⟩ := hst.out
          · exact d4
          · omega)
        have HD : Hid (∀ p ∈ done, rdB 1000000000000000 p = true) := Lib.hid hst.out.2.1
        clear hst
        by_cases hskip : ∃ h : i < s.size, s[i].toNat ≠ 44
        · obtain ⟨hi, h44⟩ := hskip
          have p1 : ((s[i].toNat : Int) != 44) = true := bne_iff_ne.2 (by omega)
          have HN : Hid (done.length ≤ 64 ∧ (∀ p ∈ done, rdB 1000000000000000 p = true) ∧ f ≤ i + 1 ∧ ((i + 1 ≤ s.size ∧ AP s 0 = done ++ AP s f ∧ ∀ j (hj : j < s.size), f ≤ j → j < i + 1 → s[j].toNat ≠ 44) ∨ (i + 1 = s.size + 1 ∧ AP s 0 = done))) := Lib.hid ⟨hst'.2.2, HD.out, by omega, .inl ⟨by omega, HP.out.1, fun j hj h1 h2 => by
            by_cases e : j = i
            · subst e; exact h44
            · exact HP.out.2 j hj h1 (by omega)⟩⟩
          go_wp2
          go_roundw
          case rel => exact ⟨f, i + 1, done, rfl, by go_num, HN, ho⟩
          case measure => simp [intOf]; omega
        · obtain ⟨n, HNL⟩ : ∃ n, Hid (done.length = n) := ⟨_, Lib.hid rfl⟩
          obtain ⟨g, cap, hv, _⟩ := ho.out.cell
          rw [List.length_map, HNL.out] at hv
          subst hv
          by_cases hi : i < s.size
          · have h44 : (s[i].toNat : Int) = 44 := by
              by_cases h : s[i].toNat = 44
              · omega
              · exact absurd ⟨hi, h⟩ hskip
            have p1 : ((s[i].toNat : Int) != 44) = false := by simp [h44]
            clear hskip
            have hap : AP s f = s.extract f i :: AP s (i + 1) := AP_comma hst'.2.1 hi HP.out.2 (by omega)
            obtain ⟨q, hq⟩ : ∃ q, s.extract f i = q := ⟨_, rfl⟩
            have hqs : q.size ≤ 1048576 := by rw [← hq, ByteArray.size_extract]; omega
            rw [hq] at hap
            have HAP : Hid (AP s 0 = done ++ q :: AP s (i + 1)) := Lib.hid (by rw [HP.out.1, hap])
            have HMem : Hid (q ∈ AP s 0) := Lib.hid (ap_get HAP.out)
            clear hap
            have r0 : (f : Int) ≤ (i : Int) := by omega
            have r1 : (i : Int) ≤ (s.size : Int) := by omega
            obtain ⟨vq, HVQ⟩ : ∃ v, Hid (rdV 1000000000000000 q = v) := ⟨_, Lib.hid rfl⟩
            cases hb : rdB 1000000000000000 q with
            | false =>
              obtain ⟨e1, e2⟩ := rl_bad hnone HMem.out hb
              have E1 := Lib.hid e1
              have E2 := Lib.hid e2
              have HB0 := Lib.hid ho.out.below
              clear e1 e2
              have hv := l01Value_any q wr hqs
              rw [hb, HVQ.out] at hv
              clear hb
              go_wp2_with (go_at_call 42; refine hv.mono ?_; rintro e w1 ⟨rfl, hb1⟩)
              go_ret2
              exact ⟨none, 0, by rw [E1.out, E2.out]; rfl, by rw [E2.out]; exact HasL.nil _ _ _ _, bw_call HB0.out hb1⟩
            | true =>
              have hv := l01Value_any q wr hqs
              rw [hb, HVQ.out] at hv
              have HQB := Lib.hid hb
              clear hb
              by_cases h64 : (n : Int) = 64
              · obtain ⟨e1, e2⟩ := rl_many hnone (by rw [HAP.out, List.length_append, List.length_cons]; have := HNL.out; omega)
                have E1 := Lib.hid e1
                have E2 := Lib.hid e2
                have HB0 := Lib.hid ho.out.below
                clear e1 e2
                have h64' : ((n : Int) == 64) = true := by simp [h64]
                clear h64
                go_wp2_with (go_at_call 42; refine hv.mono ?_; rintro e w1 ⟨rfl, hb1⟩)
                go_ret2
                exact ⟨none, 0, by rw [E1.out, E2.out]; rfl, by rw [E2.out]; exact HasL.nil _ _ _ _, bw_call HB0.out hb1⟩
              · have h64' : ((n : Int) == 64) = false := beq_eq_false_iff_ne.2 h64
                have HN : Hid ((done ++ [q]).length ≤ 64 ∧ (∀ p ∈ done ++ [q], rdB 1000000000000000 p = true) ∧ i + 1 ≤ i + 1 ∧ ((i + 1 ≤ s.size ∧ AP s 0 = (done ++ [q]) ++ AP s (i + 1) ∧ ∀ j (hj : j < s.size), i + 1 ≤ j → j < i + 1 → s[j].toNat ≠ 44) ∨ (i + 1 = s.size + 1 ∧ AP s 0 = done ++ [q]))) := Lib.hid (by
                  refine ⟨by rw [List.length_append]; have := HNL.out; have := hst'.2.2; simp; omega, fun p hp => ?_, Nat.le_refl _, ?_⟩
                  · rcases List.mem_append.1 hp with h | h
                    · exact HD.out p h
                    · rw [List.mem_singleton.1 h]; exact HQB.out
                  · left; exact ⟨by omega, by rw [HAP.out]; simp, fun j hj h1 h2 => by omega⟩)
                have hlx : done.length + 1 = n + 1 := by rw [HNL.out]
                have HLX : Hid ((done.map (rdV 1000000000000000)).length < 1000000000000) := Lib.hid (by rw [List.length_map]; have := hst'.2.2; omega)
                clear hlx h64
                go_wp2_with fail
                refine hv.mono ?_
                rintro e w1 ⟨rfl, hb1⟩
                have HO1 := Lib.hid (ho.out.later hb1)
                go_wp2_with (at_builtin; refine wpApp tI rfl _ _ rfl rfl HO1.out rfl (by decide) HLX.out ?_; intro v' w2 hown2)
                go_roundw
                case rel => exact ⟨i + 1, i + 1, done ++ [q], by go_num, by go_num, HN, Lib.hid (by rw [List.map_append, List.map_singleton, HVQ.out]; exact hown2)⟩
                case measure => simp [intOf] <;> omega
          · have hie : i = s.size := by omega
            have p1 : ¬ (i : Int) < (s.size : Int) := by omega
            clear hskip
            subst hie
            have hap : AP s f = s.extract f s.size :: [] := by
              have := AP_last (s := s) (f := f) (by omega) (fun j hj h1 => HP.out.2 j hj h1 (by omega))
              exact this
            obtain ⟨q, hq⟩ : ∃ q, s.extract f s.size = q := ⟨_, rfl⟩
            have hqs : q.size ≤ 1048576 := by rw [← hq, ByteArray.size_extract]; omega
            rw [hq] at hap
            have HAP : Hid (AP s 0 = done ++ q :: []) := Lib.hid (by rw [HP.out.1, hap])
            have HMem : Hid (q ∈ AP s 0) := Lib.hid (ap_get HAP.out)
            clear hap
            have r0 : (f : Int) ≤ (s.size : Int) := by omega
            have r1 : (s.size : Int) ≤ (s.size : Int) := by omega
            obtain ⟨vq, HVQ⟩ : ∃ v, Hid (rdV 1000000000000000 q = v) := ⟨_, Lib.hid rfl⟩
            cases hb : rdB 1000000000000000 q with
            | false =>
              obtain ⟨e1, e2⟩ := rl_bad hnone HMem.out hb
              have E1 := Lib.hid e1
              have E2 := Lib.hid e2
              have HB0 := Lib.hid ho.out.below
              clear e1 e2
              have hv := l01Value_any q wr hqs
              rw [hb, HVQ.out] at hv
              clear hb
              go_wp2_with (go_at_call 42; refine hv.mono ?_; rintro e w1 ⟨rfl, hb1⟩)
              go_ret2
              exact ⟨none, 0, by rw [E1.out, E2.out]; rfl, by rw [E2.out]; exact HasL.nil _ _ _ _, bw_call HB0.out hb1⟩
            | true =>
              have hv := l01Value_any q wr hqs
              rw [hb, HVQ.out] at hv
              have HQB := Lib.hid hb
              clear hb
              by_cases h64 : (n : Int) = 64
              · obtain ⟨e1, e2⟩ := rl_many hnone (by rw [HAP.out, List.length_append, List.length_cons]; have := HNL.out; omega)
                have E1 := Lib.hid e1
                have E2 := Lib.hid e2
                have HB0 := Lib.hid ho.out.below
                clear e1 e2
                have h64' : ((n : Int) == 64) = true := by simp [h64]
                clear h64
                go_wp2_with (go_at_call 42; refine hv.mono ?_; rintro e w1 ⟨rfl, hb1⟩)
                go_ret2
                exact ⟨none, 0, by rw [E1.out, E2.out]; rfl, by rw [E2.out]; exact HasL.nil _ _ _ _, bw_call HB0.out hb1⟩
              · have h64' : ((n : Int) == 64) = false := beq_eq_false_iff_ne.2 h64
                have HN : Hid ((done ++ [q]).length ≤ 64 ∧ (∀ p ∈ done ++ [q], rdB 1000000000000000 p = true) ∧ s.size + 1 ≤ s.size + 1 ∧ ((s.size + 1 ≤ s.size ∧ AP s 0 = (done ++ [q]) ++ AP s (s.size + 1) ∧ ∀ j (hj : j < s.size), s.size + 1 ≤ j → j < s.size + 1 → s[j].toNat ≠ 44) ∨ (s.size + 1 = s.size + 1 ∧ AP s 0 = done ++ [q]))) := Lib.hid (by
                  refine ⟨by rw [List.length_append]; have := HNL.out; have := hst'.2.2; simp; omega, fun p hp => ?_, Nat.le_refl _, ?_⟩
                  · rcases List.mem_append.1 hp with h | h
                    · exact HD.out p h
                    · rw [List.mem_singleton.1 h]; exact HQB.out
                  · right; exact ⟨by omega, HAP.out⟩)
                have hlx : done.length + 1 = n + 1 := by rw [HNL.out]
                have HLX : Hid ((done.map (rdV 1000000000000000)).length < 1000000000000) := Lib.hid (by rw [List.length_map]; have := hst'.2.2; omega)
                clear hlx h64
                go_wp2_with fail
                refine hv.mono ?_
                rintro e w1 ⟨rfl, hb1⟩
                have HO1 := Lib.hid (ho.out.later hb1)
                go_wp2_with (at_builtin; refine wpApp tI rfl _ _ rfl rfl HO1.out rfl (by decide) HLX.out ?_; intro v' w2 hown2)
                go_roundw
                case rel => exact ⟨s.size + 1, s.size + 1, done ++ [q], by go_num, by go_num, Lib.hid ⟨HN.out.1, HN.out.2.1, Nat.le_refl _, .inr ⟨rfl, HAP.out⟩⟩, Lib.hid (by rw [List.map_append, List.map_singleton, HVQ.out]; exact hown2)⟩
                case measure => simp [intOf] <;> omega
theorem sReadList_any (s : ByteArray) (w : World) (hs : s.size ≤ 1048576) :
    Calls Tryd.prog 21 #[.string s] w fun e w' => RetL (rlL s) (rlB s) w e w' := by
  have h := fun w => l01Numbers_any s w hs
  go_enter Tryd.func21, Tryd.ntmps21
  go_wp2_with (go_at_call 48; refine (h _).mono ?_; rintro e w1 ⟨a, c, rfl, hl, hb⟩)
  go_ret2
  exact ⟨a, c, rfl, hl, hb⟩
set_option maxRecDepth 100000 in
set_option maxHeartbeats 1000000 in
theorem ReadList_any (s : ByteArray) (w : World) (hs : s.size ≤ 1048576) (hf : Tab10 w ∧ Errs w ∧ MaxL w) :
    Calls Tryd.prog 22 #[.string s] w fun e w' => RetL (rlL s) (rlB s) w e w' := by
  by_cases hnone : s = ⟨#[110, 111, 110, 101]⟩
  · obtain ⟨e1, e2⟩ := rl_none hnone
    rw [e1, e2]
    subst hnone
    clear e1 e2
    go_enter Tryd.func22, Tryd.ntmps22
    go_wp2
    go_ret2
    exact ⟨some ⟨w.heap.size, 0, none⟩, 0, rfl, HasL.nil _ _ _ _, bw_alloc (bw_refl _) _⟩
  · have hne : (s.toList == [110, 111, 110, 101]) = false := beq_eq_false_iff_ne.2 fun h => hnone (bytes_inj (by rw [← Lib.toList_data, h]))
    have hSp : ∀ wq, MaxL wq → Calls Tryd.prog 49 #[.string s, .string ⟨#[44]⟩] wq fun e w' =>
        e = .returned (.slice (some ⟨wq.heap.size, 0, none⟩) (AP s 0).length (AP s 0).length) ∧ w' = wq.alloc (.cells ((AP s 0).map Value.string).toArray 9) := fun wq ⟨m, hm⟩ => by
      have h := Tryd.strings_Split s ⟨#[44]⟩ m wq (by omega) hm (by decide)
      have hl : (AP s 0).length = Lib.countB s ⟨#[44]⟩ + 1 := by rw [AP_zero]; exact Lib.splitB_all comma (by decide) 0 _ s rfl
      rw [hl, AP_zero]
      exact h
    have hsz : ∀ q ∈ AP s 0, q.size ≤ 1048576 := fun q hq => by
      have h := AP_size s 0 q hq
      omega
    have hlen : (AP s 0).length ≤ 1048577 := by
      have hl : (AP s 0).length = Lib.countB s ⟨#[44]⟩ + 1 := by rw [AP_zero]; exact Lib.splitB_all comma (by decide) 0 _ s rfl
      have := Lib.countB_le comma (by decide) s.size s (Nat.le_refl _)
      rw [hl]; show Lib.countB s comma + 1 ≤ _; omega
    obtain ⟨ps, hps⟩ : ∃ ps, AP s 0 = ps := ⟨_, rfl⟩
    rw [hps] at hSp hsz hlen
    have HPS := Lib.hid hps
    have HSZ := Lib.hid hsz
    clear hps hsz
    obtain ⟨L, HL⟩ : ∃ L, Hid (ps.length = L) := ⟨_, Lib.hid rfl⟩
    rw [HL.out] at hSp hlen
    go_enter Tryd.func22, Tryd.ntmps22
    go_wp2_with fail
    have HB0 := Lib.hid (show Below w.heap.size w (w.alloc (.cells #[] 2)) from bw_alloc (bw_refl _) _)
    have hO0 : OwnI .i64 w.heap.size 2 w (w.alloc (.cells #[] 2)) (.slice (some ⟨w.heap.size, 0, none⟩) 0 0) [] := OwnI.made (bw_refl _) (Nat.le_refl _)
    obtain ⟨W0, hW0⟩ : ∃ W0, w.alloc (.cells #[] 2) = W0 := ⟨_, rfl⟩
    have HW0s : Hid (W0.heap.size = w.heap.size + 1) := Lib.hid (by rw [← hW0]; simp)
    rw [hW0] at HB0 hO0 ⊢
    clear hW0
    refine (hSp _ (hf.2.2.later HB0.out)).mono ?_
    rintro e w1 ⟨rfl, hw1⟩
    obtain ⟨g, hg⟩ : ∃ g, W0.heap.size = g := ⟨_, rfl⟩
    rw [hg] at ⊢
    have HG : Hid (∀ (j : Nat) q, ps[j]? = some q → w1.cell? ⟨g, j, none⟩ = some (.string q)) := Lib.hid fun j q hj => by
      rw [hw1, ← hg, cell_of_row _ _ _ _ _ _ (heap_alloc_new W0 _)]
      simp [hj]
    have HGL : Hid (g < w1.heap.size) := Lib.hid (by rw [hw1, ← hg]; simp)
    have HGne : Hid (w.heap.size < g) := Lib.hid (by have := HW0s.out; omega)
    have HO0 : Hid (OwnI .i64 w.heap.size 2 w w1 (.slice (some ⟨w.heap.size, 0, none⟩) 0 0) []) := Lib.hid (by rw [hw1]; exact hO0.alloc _)
    clear hw1 hg hO0 hSp
    go_wp2
    have HNG : Hid ((Value.slice (some ⟨w.heap.size, 0, none⟩) 0 0).ownBlock ≠ some g) := Lib.hid (by
      have := HGne.out
      simp [Value.ownBlock]; omega)
    go_loopw [4, 16] (fun v i wr => ∃ (k : Nat), k ≤ L ∧ i = .int .i64 k ∧ Hid (k ≤ 64 ∧ ∀ p ∈ ps.take k, rdB 1000000000000000 p = true) ∧ Hid (∀ (j : Nat) q, ps[j]? = some q → wr.cell? ⟨g, j, none⟩ = some (.string q)) ∧ Hid (g < wr.heap.size ∧ v.ownBlock ≠ some g) ∧ Hid (OwnI .i64 w.heap.size 2 w wr v ((ps.take k).map (rdV 1000000000000000)))) (fun _ i _ => L - (intOf i).toNat)
    case atStart => exact ⟨0, Nat.zero_le _, rfl, Lib.hid ⟨by omega, by simp⟩, HG, Lib.hid ⟨HGL.out, HNG.out⟩, HO0⟩
    case round =>
      obtain ⟨k, hk, rfl, hok, hcl, hgv, ho⟩ := hrel
      by_cases hlt : k < L
      · have hkl : k < ps.length := by rw [HL.out]; exact hlt
        obtain ⟨q, HQ⟩ : ∃ q, Hid (ps[k] = q) := ⟨_, Lib.hid rfl⟩
        have hq1 : ps[k]? = some q := by rw [List.getElem?_eq_getElem hkl, HQ.out]
        have q1 := hcl.out k q hq1
        have HQ1 := Lib.hid hq1
        clear hq1
        have hmem : q ∈ ps := by rw [← HQ.out]; exact List.getElem_mem _
        have hqs := HSZ.out q hmem
        have HM := Lib.hid hmem
        have hk64 := hok.out.1
        obtain ⟨vq, HVQ⟩ : ∃ v, Hid (rdV 1000000000000000 q = v) := ⟨_, Lib.hid rfl⟩
        have hv := ReadDecimal_any q wr hqs (hf.1.later ho.out.below) (hf.2.1.later ho.out.below)
        have hlen' : ((ps.take k).map (rdV 1000000000000000)).length = k := by rw [List.length_map, List.length_take]; omega
        have HLK := Lib.hid hlen'
        obtain ⟨gv, cap, hvv, _⟩ := ho.out.cell
        rw [hlen'] at hvv
        subst hvv
        clear hmem hlen'
        have r1 : (k : Int) < (L : Int) := by omega
        cases hb : rdB 1000000000000000 q with
        | false =>
          obtain ⟨e1, e2⟩ := rl_bad hnone (by rw [HPS.out]; exact HM.out) hb
          have E1 := Lib.hid e1
          have E2 := Lib.hid e2
          have HB0' := Lib.hid ho.out.below
          clear e1 e2
          rw [hb, HVQ.out] at hv
          clear hb
          go_wp2_with (go_at_call 17; refine hv.mono ?_; rintro e w2 ⟨rfl, hb2⟩)
          go_ret2
          exact ⟨none, 0, by rw [E1.out, E2.out]; rfl, by rw [E2.out]; exact HasL.nil _ _ _ _, bw_call HB0'.out hb2⟩
        | true =>
          rw [hb, HVQ.out] at hv
          have HQB := Lib.hid hb
          clear hb
          by_cases h64 : (k : Int) = 64
          · obtain ⟨e1, e2⟩ := rl_many hnone (by rw [HPS.out]; omega)
            have E1 := Lib.hid e1
            have E2 := Lib.hid e2
            have HB0' := Lib.hid ho.out.below
            have h64' : ((k : Int) == 64) = true := by simp [h64]
            clear e1 e2 h64
            go_wp2_with (go_at_call 17; refine hv.mono ?_; rintro e w2 ⟨rfl, hb2⟩)
            go_ret2
            exact ⟨none, 0, by rw [E1.out, E2.out]; rfl, by rw [E2.out]; exact HasL.nil _ _ _ _, bw_call HB0'.out hb2⟩
          · have h64' : ((k : Int) == 64) = false := beq_eq_false_iff_ne.2 h64
            have HOK : Hid (k + 1 ≤ 64 ∧ ∀ p ∈ ps.take (k + 1), rdB 1000000000000000 p = true) := Lib.hid ⟨by omega, fun p hp => by
              rw [List.take_add_one, HQ1.out] at hp
              rcases List.mem_append.1 hp with h | h
              · exact hok.out.2 p h
              · have : p = q := by simpa using h
                rw [this]; exact HQB.out⟩
            have HTK : Hid ((ps.take (k + 1)).map (rdV 1000000000000000) = (ps.take k).map (rdV 1000000000000000) ++ [vq]) := Lib.hid (by
              rw [List.take_add_one, HQ1.out, List.map_append, ← HVQ.out]; rfl)
            have HLX : Hid (((ps.take k).map (rdV 1000000000000000)).length < 1000000000000) := Lib.hid (by rw [HLK.out]; omega)
            clear h64
            go_wp2_with fail
            refine hv.mono ?_
            rintro e w2 ⟨rfl, hb2⟩
            have HO2 := Lib.hid (ho.out.later hb2)
            have HC2 : Hid (∀ (j : Nat) q, ps[j]? = some q → w2.cell? ⟨g, j, none⟩ = some (.string q)) := Lib.hid fun j q hj => (hb2.cell (p := ⟨g, j, none⟩) hgv.out.1).trans (hcl.out j q hj)
            have HG2 : Hid (g < w2.heap.size) := Lib.hid (Nat.lt_of_lt_of_le hgv.out.1 hb2.size)
            clear hb2 hv
            go_wp2_with (at_builtin; refine wpAppF tI rfl _ _ rfl rfl HO2.out rfl (by decide) HLX.out ?_; intro v' w3 hown3 hsz3 hbl3 hvb3)
            have HC3 : Hid (∀ (j : Nat) q, ps[j]? = some q → w3.cell? ⟨g, j, none⟩ = some (.string q)) := Lib.hid fun j q hj => by
              have h1 := HC2.out j q hj
              have h2 := hbl3 g HG2.out hgv.out.2
              unfold World.cell? at h1 ⊢
              rw [h2]; exact h1
            have HV3 : Hid (g < w3.heap.size ∧ v'.ownBlock ≠ some g) := Lib.hid ⟨Nat.lt_of_lt_of_le HG2.out hsz3, by
              rcases hvb3 with h | h
              · rw [h]; exact hgv.out.2
              · rw [h]; intro e; injection e with e; have := HG2.out; omega⟩
            clear hsz3 hbl3 hvb3
            go_roundw
            case rel => exact ⟨k + 1, by omega, by go_num, HOK, HC3, HV3, Lib.hid (by rw [HTK.out]; exact hown3)⟩
            case measure => simp [intOf] <;> omega
      · have hke : k = L := by omega
        subst hke
        have htk : ps.take k = ps := by rw [← HL.out, List.take_length]
        obtain ⟨e1, e2⟩ := rl_all hnone (by rw [HPS.out, HL.out]; exact hok.out.1) (by rw [HPS.out]; have h := hok.out.2; rwa [htk] at h)
        rw [HPS.out] at e2
        rw [htk] at ho
        obtain ⟨a', c', hv, hh⟩ := ho.out.hasL
        have HW := Lib.hid ho.out.below
        have HH := Lib.hid hh
        have HV := Lib.hid hv
        have E1 := Lib.hid e1
        have E2 := Lib.hid e2
        clear hh hv e1 e2 htk
        go_wp2
        go_ret2
        exact ⟨a', c', by rw [E1.out, E2.out, ← HV.out]; rfl, by rw [E2.out]; exact HH.out, HW.out⟩
end Go.Proofs.YtcmmcffglmcegaaDoor

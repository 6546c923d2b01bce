/-
  Contract of the reference's TableCycles. Condition: the text's length.
-/
import Derived.Test.YtgcfibljepdkkaaDoorT1
import Derived.Test.YtgcfibljepdkkaaDoorE2
namespace Go.Proofs.YtgcfibljepdkkaaDoor
open Go.RowKit
set_option linter.unusedVariables false

/-- The lengths of the cycles, in order. -/
def IsTC (f : Nat → Nat) (n : Nat) (L : List Nat) : Prop := L.Pairwise (· ≤ ·) ∧ ∃ out, SpecL f n n out ∧ L.Perm out
theorem specL_perm {f : Nat → Nat} {n s : Nat} {o o' : List Nat} (h : SpecL f n s o) (h' : SpecL f n s o') : o.Perm o' := by
  obtain ⟨r, r1, r2, rfl⟩ := h
  obtain ⟨r', s1, s2, rfl⟩ := h'
  exact List.Perm.map _ ((List.perm_ext_iff_of_nodup r1 s1).2 fun m => by rw [r2, s2])
theorem IsTC.unique {f : Nat → Nat} {n : Nat} {L L' : List Nat} (h : IsTC f n L) (h' : IsTC f n L') : L = L' := by
  obtain ⟨h1, o, h2, h3⟩ := h
  obtain ⟨k1, o', k2, k3⟩ := h'
  exact sorted_same ((h3.trans (specL_perm h2 k2)).trans k3.symm) h1 k1
open Classical in
/-- TableCycles' list. -/
noncomputable def tcL (wd : Int) (s : ByteArray) : List Nat := if h : tcB wd s = true ∧ ∃ L, IsTC (tf s wd.toNat) s.size L then Classical.choose h.2 else []
theorem tcL_no {wd : Int} {s : ByteArray} (h : tcB wd s = false) : tcL wd s = [] := by
  unfold tcL
  rw [dif_neg (fun c => by rw [h] at c; cases c.1)]
theorem tcL_yes {W : Nat} {s : ByteArray} {L : List Nat} (h : tcB W s = true) (hL : IsTC (tf s W) s.size L) : tcL W s = L := by
  have hc : tcB W s = true ∧ ∃ L, IsTC (tf s (W : Int).toNat) s.size L := ⟨h, L, by rwa [Int.toNat_natCast]⟩
  unfold tcL
  rw [dif_pos hc]
  have hL' : IsTC (tf s (W : Int).toNat) s.size L := by rwa [Int.toNat_natCast]
  exact (Classical.choose_spec hc.2).unique hL'
theorem l02Table_any (wd : Int) (s : ByteArray) (w : World) (hs : s.size ≤ 1048576) :
    Calls Tryd.prog 22 #[.int .i64 wd, .string s] w fun e w' => e = .returned (.bool (tcB wd s)) ∧ w = w' := by
  cases h1 : inR wd 0 6 with
  | false =>
    have e : tcB wd s = false := by unfold tcB; rw [h1]; rfl
    rw [e]; clear e
    go_enter Tryd.func22, Tryd.ntmps22
    go_wp2_with (go_at_call 33; refine (l00In_of h1 _).mono ?_; rintro e w' ⟨rfl, rfl⟩)
    go_ret
    exact ⟨rfl, rfl⟩
  | true =>
    have b1 := inR_true h1
    cases h2 : bitsB s with
    | false =>
      have e : tcB wd s = false := by unfold tcB; rw [h1, h2]; rfl
      rw [e]; clear e
      go_enter Tryd.func22, Tryd.ntmps22
      go_wp2_with (first | (go_at_call 33; refine (l00In_of h1 _).mono ?_; rintro e w' ⟨rfl, rfl⟩) | (go_at_call 29; refine (l01Bits_of h2 _ hs).mono ?_; rintro e w' ⟨rfl, rfl⟩))
      go_ret
      exact ⟨rfl, rfl⟩
    | true =>
      have e : tcB wd s = ((s.size : Int) == sh wd) := by unfold tcB; rw [h1, h2, Bool.eq_iff_iff]; simp
      have s1 := sh_pos wd
      have s2 : sh wd ≤ 64 := sh_le b1.2
      have hs2 := sh_wrap (n := wd) (by omega)
      obtain ⟨q, hq⟩ : ∃ q, ((s.size : Int) == sh wd) = q := ⟨_, rfl⟩
      rw [e, hq]; clear e
      have u1 : IntKind.u64.wrap wd = wd := IntWalk.u64_in _ (by omega)
      go_enter Tryd.func22, Tryd.ntmps22
      go_wp2_with (first | (go_at_call 33; refine (l00In_of h1 _).mono ?_; rintro e w' ⟨rfl, rfl⟩) | (go_at_call 29; refine (l01Bits_of h2 _ hs).mono ?_; rintro e w' ⟨rfl, rfl⟩))
      go_ret
      exact ⟨rfl, rfl⟩
set_option maxHeartbeats 2000000 in
set_option maxRecDepth 100000 in
theorem sTableCycles_any (wd : Int) (s : ByteArray) (w : World) (hs : s.size ≤ 1048576) :
    Calls Tryd.prog 14 #[.int .i64 wd, .string s] w (RetL (nl (tcL wd s)) (tcB wd s) w) := by
  have hT : ∀ w1, Calls Tryd.prog 22 #[.int .i64 wd, .string s] w1 fun e w' => e = .returned (.bool (tcB wd s)) ∧ w1 = w' := fun w1 => l02Table_any wd s w1 hs
  cases hB : tcB wd s with
  | false =>
    rw [hB] at hT
    rw [tcL_no hB]
    clear hB
    go_enter Tryd.func14, Tryd.ntmps14
    go_wp2_with (go_at_call 22; refine (hT _).mono ?_; rintro e w' ⟨rfl, rfl⟩)
    go_ret2
    exact ⟨_, _, rfl, .inl rfl, bw_refl _⟩
  | true =>
    rw [hB] at hT
    obtain ⟨W, rfl, hW, hb, hn⟩ := tcB_true hB
    have HT := Lib.hid (fun L => tcL_yes (L := L) hB)
    have hn64 : s.size ≤ 64 := by rw [hn]; exact Nat.le_trans (Nat.pow_le_pow_right (by decide) hW) (by decide)
    have HF : Hid (∀ x, x < s.size → tf s W x < s.size) := Lib.hid (by rw [hn]; exact tf_lt hb hn)
    have HM := Lib.hid (fun (x : Nat) (w : World) (hx : x < s.size) => l02Move_any s W x w hb hW hn hx)
    obtain ⟨f, Hf⟩ : ∃ f, Hid (tf s W = f) := ⟨_, Lib.hid rfl⟩
    rw [Hf.out] at HT HF
    have HM' : Hid (∀ (x : Nat) (w : World), x < s.size → Calls Tryd.prog 23 #[.int .i64 W, .string s, .int .i64 x] w fun e w' => e = .returned (.int .i64 (f x : Nat)) ∧ w = w') := Lib.hid (by rw [← Hf.out]; exact HM.out)
    clear hB hb hn HM
    go_enter Tryd.func14, Tryd.ntmps14
    go_wp2_with (go_at_call 22; refine (hT _).mono ?_; rintro e w' ⟨rfl, rfl⟩)
    clear hT
    go_loopw [6, 8] (fun v i wr => ∃ (k : Nat) (out : List Nat), k ≤ s.size ∧ i = .int .i64 k ∧ Hid (SpecL f s.size k out) ∧ Hid (OwnI .i64 w.heap.size 2 w wr v (nl out))) (fun _ i _ => s.size - (intOf i).toNat)
    case atStart => exact ⟨0, [], Nat.zero_le _, rfl, Lib.hid (SpecL.zero _ _), Lib.hid (OwnI.made (bw_refl _) (Nat.le_refl _))⟩
    case round =>
      obtain ⟨k, out, hk, rfl, hsp, ho⟩ := hrel
      by_cases hlt : k < s.size
      · have hc0 := fun w1 => HM'.out k w1 hlt
        go_wp2_with (go_at_call 23; refine (hc0 _).mono ?_; rintro e w' ⟨rfl, rfl⟩)
        clear hc0
        go_loop [9, 10] (fun l a => ∃ L x : Nat, 1 ≤ L ∧ L ≤ s.size ∧ x < s.size ∧ l = .int .i64 L ∧ a = .int .i64 x ∧ Hid (jt f L k = x) ∧ Hid (∀ j, 1 ≤ j → j < L → k < jt f j k)) (fun l _ => s.size - (intOf l).toNat)
        case atStart => exact ⟨1, f k, Nat.le_refl _, by omega, HF.out k hlt, rfl, rfl, Lib.hid rfl, Lib.hid (fun j h1 h2 => by omega)⟩
        case round =>
          obtain ⟨L, x, hL1, hLn, hx, rfl, rfl, hj, hall⟩ := hrel
          by_cases hgo : k < x ∧ L < s.size
          · obtain ⟨g1, g2⟩ := hgo
            have hc0 := fun w1 => HM'.out x w1 hx
            have HX : Hid (jt f (L + 1) k = f x) := Lib.hid (by rw [jt, hj.out])
            have HFx := HF.out x hx
            have HA : Hid (∀ j, 1 ≤ j → j < L + 1 → k < jt f j k) := Lib.hid fun j h1 h2 => by
              by_cases e : j = L
              · subst e; rw [hj.out]; exact g1
              · exact hall.out j h1 (by omega)
            obtain ⟨y, HY⟩ : ∃ y, Hid (f x = y) := ⟨_, Lib.hid rfl⟩
            rw [HY.out] at HX HFx
            simp only [HY.out] at hc0
            go_wp2_with (go_at_call 23; refine (hc0 _).mono ?_; rintro e w' ⟨rfl, rfl⟩)
            go_round
            case rel => exact ⟨L + 1, y, by omega, by omega, HFx, by go_num, rfl, HX, HA⟩
            case measure => simp [intOf]; omega
          · have hat := spec_at HF.out hlt hL1 hall.out hLn (by rw [hj.out]; omega)
            rw [hj.out] at hat
            have HAt := Lib.hid hat
            have HL : Hid ((nl out).length < 1000000000000) := Lib.hid (by have := hsp.out.len; rw [nl_len]; omega)
            have HNl : Hid (nl out ++ [(L : Int)] = nl (out ++ [L])) := Lib.hid (by rw [nl_snoc])
            clear hat
            by_cases hgx : k < x
            · have hLs : ¬ L < s.size := fun c => hgo ⟨hgx, c⟩
              have hne : ((x : Int) == (k : Int)) = false := beq_eq_false_iff_ne.2 (by omega)
              have HN : Hid (SpecL f s.size (k + 1) out) := Lib.hid (hsp.out.no fun c => by have := HAt.out.1.2 c; omega)
              clear hgo
              go_wp2
              go_roundw
              case rel => exact ⟨k + 1, out, by omega, by go_num, HN, ho⟩
              case measure => simp [intOf]; omega
            · by_cases hxk : x = k
              · have hq := HAt.out.1.1 hxk
                have HN : Hid (SpecL f s.size (k + 1) (out ++ [L])) := Lib.hid (hsp.out.yes (HAt.out.2 hxk) hLn hq.2)
                subst hxk
                clear hgo hq
                go_wp2_with (at_builtin; refine wpApp tI rfl _ _ rfl rfl ho.out rfl (by decide) HL.out ?_; intro v' w7 hown7)
                go_roundw
                case rel => exact ⟨x + 1, out ++ [L], by omega, by go_num, HN, Lib.hid (by rw [← HNl.out]; exact hown7)⟩
                case measure => simp [intOf]; omega
              · have hne : ((x : Int) == (k : Int)) = false := beq_eq_false_iff_ne.2 (by omega)
                have HN : Hid (SpecL f s.size (k + 1) out) := Lib.hid (hsp.out.no fun c => hxk (HAt.out.1.2 c))
                clear hgo
                go_wp2
                go_roundw
                case rel => exact ⟨k + 1, out, by omega, by go_num, HN, ho⟩
                case measure => simp [intOf]; omega
      · have hke : k = s.size := by omega
        subst hke
        have HTC : Hid (IsTC f s.size (srt out s.size)) := Lib.hid ⟨(srt_sorted out s.size).1, out, hsp.out, srt_all (hsp.out.bd HF.out (Nat.le_refl _))⟩
        have hol := hsp.out.len
        have HB1 := Lib.hid ho.out.below
        obtain ⟨wo, rfl⟩ : ∃ wo : World, wo = wr := ⟨_, rfl⟩
        obtain ⟨g, cap, rfl, hg0, hg1, hcell⟩ := ho.out.nat
        have HC := Lib.hid hcell
        clear hcell
        go_wp2
        go_loopw [11, 12] (fun v i wr => ∃ k : Nat, k ≤ s.size ∧ i = .int .i64 (k + 1 : Nat) ∧ Hid (OwnI .i64 wo.heap.size 2 wo wr v (nl (srt out k)))) (fun _ i _ => s.size + 1 - (intOf i).toNat)
        case atStart => exact ⟨0, Nat.zero_le _, rfl, Lib.hid (OwnI.made (bw_refl _) (Nat.le_refl _))⟩
        case round =>
          obtain ⟨k, hk, rfl, hr⟩ := hrel
          by_cases hlk : k < s.size
          · obtain ⟨q, HQ⟩ : ∃ q, Hid (k + 1 = q) := ⟨_, Lib.hid rfl⟩
            have hq := HQ.out
            have hq0 : 1 ≤ q := by omega
            have hqn : q ≤ s.size := by omega
            have HS0 : Hid (srt out k ++ srtI out k 0 = srt out k) := Lib.hid (by simp [srtI])
            rw [HQ.out]
            clear hq
            go_wp2
            go_loopw [11, 13] (fun v i wr => ∃ j : Nat, j ≤ out.length ∧ i = .int .i64 j ∧ Hid (OwnI .i64 wo.heap.size 2 wo wr v (nl (srt out k ++ srtI out k j)))) (fun _ i _ => out.length - (intOf i).toNat)
            case atStart => exact ⟨0, Nat.zero_le _, rfl, Lib.hid (by rw [HS0.out]; exact hr.out)⟩
            case round =>
              obtain ⟨j, hj, rfl, hr2⟩ := hrel
              by_cases hjl : j < out.length
              · have q1 := (hr2.out.below.cell (p := ⟨g, j, none⟩) hg1).trans (HC.out j hjl)
                have HL : Hid ((nl (srt out k ++ srtI out k j)).length < 1000000000000) := Lib.hid (by
                  rw [nl_len, List.length_append]
                  have h1 := (srt_perm out k).length_eq
                  have h2 := List.length_filter_le (fun v => decide (1 ≤ v) && decide (v ≤ k)) out
                  have h3 : (srtI out k j).length ≤ out.length := by
                    unfold srtI
                    have h4 := List.length_filter_le (fun v => v == k + 1) (out.take j)
                    have h5 := List.length_take_le j out
                    have h6 := List.length_take_le' j out
                    omega
                  omega)
                obtain ⟨y, HY⟩ : ∃ y, Hid (out.getD j 0 = y) := ⟨_, Lib.hid rfl⟩
                rw [HY.out] at q1
                by_cases hyq : y = q
                · have HN : Hid (nl (srt out k ++ srtI out k j) ++ [(y : Int)] = nl (srt out k ++ srtI out k (j + 1))) := Lib.hid (by rw [srtI_yes hjl (by rw [HY.out, hyq, HQ.out]), ← nl_snoc, List.append_assoc, hyq, HQ.out])
                  have heq : ((y : Int) == (q : Int)) = true := by rw [hyq]; simp
                  subst hyq
                  clear heq
                  go_wp2_with (at_builtin; refine wpApp tI rfl _ _ rfl rfl hr2.out rfl (by decide) HL.out ?_; intro v' w7 hown7)
                  go_roundw
                  case rel => exact ⟨j + 1, by omega, by go_num, Lib.hid (by rw [← HN.out]; exact hown7)⟩
                  case measure => simp [intOf]; omega
                · have hne : ((y : Int) == (q : Int)) = false := beq_eq_false_iff_ne.2 (by omega)
                  have HN : Hid (srtI out k (j + 1) = srtI out k j) := Lib.hid (srtI_no hjl (by rw [HY.out, HQ.out]; exact hyq))
                  clear hyq
                  go_wp2
                  go_roundw
                  case rel => exact ⟨j + 1, by omega, by go_num, by rw [HN.out]; exact hr2⟩
                  case measure => simp [intOf]; omega
              · have hje : j = out.length := by omega
                subst hje
                go_wp2
                go_roundw
                case rel => exact ⟨k + 1, by omega, by rw [HQ.out]; go_num, hr2⟩
                case measure => have := HQ.out; simp [intOf]; omega
          · have hke : k = s.size := by omega
            subst hke
            have HR : Hid (tcL (W : Int) s = srt out s.size) := Lib.hid (HT.out _ HTC.out)
            have HH := Lib.hid hr.out.hasL
            have HBl := Lib.hid hr.out.below
            obtain ⟨g2, cap2, rfl⟩ := hr.out.2.2.2
            have r1 : ¬ ((s.size + 1 : Nat) : Int) ≤ (s.size : Int) := by omega
            go_wp2
            go_ret2
            obtain ⟨a', c', hv, hh⟩ := HH.out
            simp only [Value.slice.injEq] at hv
            obtain ⟨rfl, _, rfl⟩ := hv
            rw [HR.out]
            exact ⟨_, _, rfl, hh.mono HB1.out.size, bw_call HB1.out HBl.out⟩
end Go.Proofs.YtgcfibljepdkkaaDoor

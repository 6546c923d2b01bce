/-
  Walk of the law FnAllWords: it returns true for every argument. No condition.
-/
import Derived.Test.YtdnikkmioighkaaDoorM29
namespace Go.Proofs.YtdnikkmioighkaaDoor
open Go.RowKit
set_option linter.unusedVariables false

set_option maxRecDepth 100000 in
set_option maxHeartbeats 1000000 in
theorem FnAllWords_walk (a0 : Option Addr) (l0 c0 : Nat) (z0 : List Int) (a1 : Option Addr) (l1 c1 : Nat) (z1 : List Int) (w : World) (h0 : IsRow .u8 w a0 l0 c0 z0) (h1 : IsRow .u8 w a1 l1 c1 z1) :
    Calls Tryd.prog 4 #[.slice a0 l0 c0, .slice a1 l1 c1] w fun e w' => e = .returned (.bool true) ∧ Below w.heap.size w w' := by
  have m0 := h0.len_le.1
  have m1 := h1.len_le.1
  have H0 := Lib.hid h0
  have H1 := Lib.hid h1
  clear h0 h1
  cases hL : long8 l0 l1 with
  | true =>
    go_enter Tryd.func4, Tryd.ntmps4
    go_wp2_with (go_at_call 7; refine (r8Long_of m0 m1 hL).mono ?_; rintro e w' ⟨rfl, rfl⟩)
    go_ret
    exact ⟨rfl, bw_refl _⟩
  | false =>
    obtain ⟨r, HRr⟩ : ∃ r, Hid (r8 z0 l0 (0 : Nat) 6 = r) := ⟨_, Lib.hid rfl⟩
    have rb := r8_bd z0 l0 (0 : Nat) (n := 6) (by decide)
    rw [HRr.out] at rb
    obtain ⟨r', rfl⟩ := Int.eq_ofNat_of_zero_le rb.1
    have hW1 : 1 ≤ r' + 1 := by omega
    have hW6 : r' + 1 ≤ 6 := by omega
    have hWe : 1 + (r' : Int) = ((r' + 1 : Nat) : Int) := by omega
    obtain ⟨f1, f2, f3, f4⟩ := LW_facts hW1 hW6
    obtain ⟨W, HW⟩ : ∃ W, Hid (r' + 1 = W) := ⟨_, Lib.hid rfl⟩
    rw [HW.out] at hWe hW1 hW6 f1 f2 f3 f4
    have eB : lwB W = true := inR_mk (by omega) (by omega)
    have eS : lwS W = strB (LW W) := by unfold lwS; rw [if_pos eB, Int.toNat_natCast]
    have hLW := fun w => LeastAllWords_any W w
    rw [eB, eS] at hLW
    have hpre : (strB (LW W)).extract 0 W = (⟨#[48, 48, 48, 48, 48, 48]⟩ : ByteArray).extract 0 W := by
      rw [strB_take, f3, show (⟨#[48, 48, 48, 48, 48, 48]⟩ : ByteArray) = strB [48, 48, 48, 48, 48, 48] from rfl, strB_take]
      have : W = 1 ∨ W = 2 ∨ W = 3 ∨ W = 4 ∨ W = 5 ∨ W = 6 := by omega
      rcases this with rfl | rfl | rfl | rfl | rfl | rfl <;> rfl
    obtain ⟨s, HS⟩ : ∃ s, Hid (strB (LW W) = s) := ⟨_, Lib.hid rfl⟩
    rw [HS.out] at f1 f2 f4 hLW hpre
    have f4' : DistW s W s.size := by rw [f1]; exact f4
    have hAW : awB W s = true := awB_yes hW1 hW6 f2 f1 f4'
    have hp64 : 2 ^ W ≤ 64 := Nat.le_trans (Nat.pow_le_pow_right (by decide) hW6) (by decide)
    have hp0 : 0 < 2 ^ W := Nat.pow_pos (by decide)
    have hs64 : s.size ≤ 64 := by omega
    have hs0 : 0 < s.size := by omega
    have hWs : W ≤ s.size := by rw [f1]; exact Nat.le_of_lt Nat.lt_two_pow_self
    have hsl := shl_one (s := W) (by omega)
    have hs3 : IntKind.i64.wrap (2 ^ W) = ((2 ^ W : Nat) : Int) := by
      have e : (2 : Int) ^ W = ((2 ^ W : Nat) : Int) := by rw [Int.natCast_pow]; rfl
      rw [e, IntKind.wrap_i64]; omega
    rw [← f1] at hsl hs3
    obtain ⟨t, HT⟩ : ∃ t, Hid (r8 z0 l0 (1 : Nat) s.size = t) := ⟨_, Lib.hid rfl⟩
    have tb := r8_bd z0 l0 (1 : Nat) (n := s.size) (by omega)
    rw [HT.out] at tb
    obtain ⟨t, rfl⟩ := Int.eq_ofNat_of_zero_le tb.1
    have ht : t < s.size := by omega
    have hAR : awB W (s.extract t s.size ++ s.extract 0 t) = true := by
      show awB W (rotB s t) = true
      exact awB_yes hW1 hW6 (rotB_bits f2 (by omega)) (by rw [rotB_size s (by omega), f1]) (by rw [rotB_size s (by omega)]; exact rotB_dist (by omega) f4')
    have hRs : (s.extract t s.size ++ s.extract 0 t).size = s.size := rotB_size s (by omega)
    have hI1 := fun w => IsAllWords_any W s w (by omega)
    have hI2 := fun w => IsAllWords_any W (s.extract t s.size ++ s.extract 0 t) w (by omega)
    rw [hAW] at hI1
    rw [hAR] at hI2
    have hps : (⟨#[48, 48, 48, 48, 48, 48]⟩ : ByteArray).size = 6 := rfl
    have hAt0 := fun w h => r8At_of (a := a0) (c := c0) (w := w) (k := 0) h (by decide) (by decide) (by decide) HRr
    have hAt1 := fun w h => r8At_of (a := a0) (c := c0) (w := w) (k := 1) h (by decide) (by omega) (by omega) HT
    have e1 : s.extract t s.size = (s.extract t s.size) := rfl
    have F1 := Lib.hid f1
    clear hAW hAR f1 f2 f3 f4 f4' eB eS rb tb hp0 hp64 e1 
    go_enter Tryd.func4, Tryd.ntmps4
    go_wp2_with fail
    refine (r8Long_of m0 m1 hL).mono ?_
    rintro e w' ⟨rfl, rfl⟩
    go_wp2_with fail
    refine (hAt0 _ H0.out).mono ?_
    rintro e w' ⟨rfl, rfl⟩
    go_wp2_with fail
    refine (hLW _).mono ?_
    rintro e w1 ⟨rfl, hb1⟩
    have HB1 := Lib.hid hb1
    have HC1 := Lib.hid (H0.out.below hb1)
    have HM1 := Lib.hid (H1.out.below hb1)
    clear hb1
    go_wp2_with fail
    refine (hAt1 _ HC1.out).mono ?_
    rintro e w' ⟨rfl, rfl⟩
    have hz1 : (s.extract t s.size).size = s.size - t := by rw [ByteArray.size_extract]; omega
    have hz2 : (s.extract 0 t).size = t := by rw [ByteArray.size_extract]; omega
    have q1 : (0 : Int) ≤ (t : Int) := by omega
    have q2 : (t : Int) ≤ (s.size : Int) := by omega
    have q3 : (0 : Int) ≤ (W : Int) := by omega
    have q4 : (W : Int) ≤ (s.size : Int) := by omega
    have q5 : (W : Int) ≤ 6 := by omega
    have q6 : ¬ 9223372036854775807 < s.size - t + t := by omega
    go_upto_region 8 with fail
    go_cut [66] (fun c wx => c = .bool false ∧ Hid (Below w1.heap.size w1 wx))
    case first =>
      go_region_held3 (fun w' => (0 : Nat) ≤ w'.heap.size) (exact Nat.zero_le _) (first | (go_at_call 9; (with_reducible refine (hI1 _).mono ?_); rintro e w2 ⟨rfl, hb2⟩) | (go_at_call 9; (with_reducible refine (hI2 _).mono ?_); rintro e w3 ⟨rfl, hb3⟩))
      all_goals (go_wp2_with fail; go_meet; exact ⟨rfl, Lib.hid (by first | exact bw_call (bw_call (bw_drew (bw_refl _)) hb2) hb3 | exact bw_call (bw_drew (bw_call (bw_drew (bw_refl _)) hb2)) hb3 | exact bw_call (bw_drew hb2) hb3 | exact bw_call hb2 hb3)⟩)
    case rest =>
      obtain ⟨rfl, HB⟩ := hcut
      clear hAt0 hAt1 hI1 hI2 hLW hpre hps hRs hz1 hz2 q1 q2 q3 q4 q5 q6 hsl hs3
      obtain ⟨V, HV⟩ : ∃ V, Hid (r8 z1 l1 (0 : Nat) 5 = V) := ⟨_, Lib.hid rfl⟩
      have vb := r8_bd z1 l1 (0 : Nat) (n := 5) (by decide)
      rw [HV.out] at vb
      obtain ⟨V, rfl⟩ := Int.eq_ofNat_of_zero_le vb.1
      have hV4 : V ≤ 4 := by omega
      obtain ⟨g, HG⟩ : ∃ g : Nat → Int, Hid (∀ i, r8 z1 l1 (i + 1) 2 = g i) := ⟨_, Lib.hid fun _ => rfl⟩
      have hg : ∀ i, g i = 0 ∨ g i = 1 := fun i => by have := r8_bd z1 l1 (i + 1) (n := 2) (by decide); rw [HG.out] at this; omega
      have Hg := Lib.hid hg
      obtain ⟨b, HBt⟩ : ∃ b, Hid (r8 z1 l1 (30 : Nat) 2 = b) := ⟨_, Lib.hid rfl⟩
      have hb : b = 0 ∨ b = 1 := by have := r8_bd z1 l1 (30 : Nat) (n := 2) (by decide); rw [HBt.out] at this; omega
      obtain ⟨L, hL1, hL2, hL3, hL4, hL5, hL6, hL7⟩ := tbl_law hg hb (show V ≤ 6 by omega)
      have hTC := fun w => TableCycles_any V (strOfNums (tbl g b (2 ^ V))) w (by rw [strOfNums_size, tbl_len]; have := Nat.pow_le_pow_right (show 0 < 2 by decide) hV4; omega)
      rw [hL1, tbl_tc hg (show V ≤ 6 by omega)] at hTC
      have hn16 : 2 ^ V ≤ 16 := Nat.le_trans (Nat.pow_le_pow_right (by decide) hV4) (by decide)
      have hn0 : 0 < 2 ^ V := Nat.pow_pos (by decide)
      have hsl := shl_one (s := V) (by omega)
      have hs3 := wrap_pow (show V ≤ 6 by omega)
      have hev := half_pow V
      have HEv := Lib.hid hev
      have hAt0 := fun w h => r8At_of (a := a1) (c := c1) (w := w) (k := 0) h (by decide) (by decide) (by decide) HV
      have HAtk := Lib.hid (fun w (i : Nat) (hi : i ≤ 64) h => r8At_of (a := a1) (c := c1) (w := w) (k := i + 1) (n := 2) h (by omega) (by decide) (by decide) (Lib.hid (HG.out i)))
      have hA30 : ∀ w, IsRow .u8 w a1 l1 c1 z1 → Calls Tryd.prog 8 #[.slice a1 l1 c1, .int .i64 30, .int .i64 2] w fun e w' => e = .returned (.int .i64 b) ∧ w = w' := fun w h => r8At_of (a := a1) (c := c1) (w := w) (k := 30) h (by decide) (by decide) (by decide) HBt
      clear hg hL1 hev vb
      obtain ⟨N, HN⟩ : ∃ N, Hid (2 ^ V = N) := ⟨_, Lib.hid rfl⟩
      rw [HN.out] at hL3 hL6 hL7 hTC hn16 hn0 hsl hs3
      simp only [HN.out] at hL5 HEv
      have HL2 := Lib.hid hL2
      have HL4 := Lib.hid hL4
      have HL5 := Lib.hid hL5
      have HL7 := Lib.hid hL7
      clear hL2 hL4 hL5 hL7
      have HC := Lib.hid (HM1.out.below HB.out)
      have HB2 := Lib.hid (bw_call HB1.out HB.out)
      clear HB HB1 HC1 HM1
      go_wp2_with fail
      refine (hAt0 _ HC.out).mono ?_
      rintro e w' ⟨rfl, rfl⟩
      clear hAt0
      obtain ⟨wo, rfl⟩ : ∃ wo : World, wo = wc := ⟨_, rfl⟩
      go_wp2
      go_loopw [10, 11] (fun tb x wr => ∃ k : Nat, k ≤ N ∧ x = .int .i64 k ∧ tb = .string (strOfNums (tbl g b k)) ∧ Hid (IsRow .u8 wr a1 l1 c1 z1) ∧ Hid (Below w.heap.size w wr)) (fun _ x _ => N - (intOf x).toNat)
      case atStart => exact ⟨0, Nat.zero_le _, rfl, rfl, HC, HB2⟩
      case round =>
        obtain ⟨k, hk, rfl, rfl, hc, hbl⟩ := hrel
        by_cases hlt : k < N
        · obtain ⟨h, q, p, y, c, d, E1, hk64, E3, ⟨v1, v2, v3, v4, v5⟩, e5, e6, e7, e8, e9, E10, z3', hy, r1, r2⟩ := row_facts Hg.out hb hlt hn16
          have hAk := HAtk.out wr (k / 2) hk64 hc.out
          rw [E1, E3] at hAk
          have hAb := hA30 wr hc.out
          have hcv := conv1 d
          have happ := (str_snoc (xs := tbl g b k) (d := d)).trans (congrArg strOfNums E10.symm)
          have z1' : (strOfNums (tbl g b k)).size = k := by rw [strOfNums_size, tbl_len]
          have z2' : (strOfNums [d]).size = 1 := strOfNums_size _
          clear E1 E3 E10 hk64
          go_wp2_with (first | (go_at_call 8; (with_reducible refine hAk.mono ?_); rintro e w' ⟨rfl, rfl⟩) | (go_at_call 8; (with_reducible refine hAb.mono ?_); rintro e w' ⟨rfl, rfl⟩))
          go_roundw
          case rel => exact ⟨k + 1, Nat.succ_le_of_lt hlt, by go_num, rfl, Lib.hid (hc.out.below (bw_alloc (bw_refl _) _)), Lib.hid (bw_alloc hbl.out _)⟩
          case measure => exact left1 hlt
        · obtain rfl : k = N := Nat.le_antisymm hk (Nat.le_of_not_lt hlt)
          have hTk := tbl_mem (b := b) (k := k) Hg.out
          have hsz : (strOfNums (tbl g b k)).size = k := by rw [strOfNums_size, tbl_len]
          have HAT := Lib.hid (fun (x : Nat) (hx : x < k) => (byt_nums hTk (show x < (tbl g b k).length by rw [tbl_len]; exact hx)).trans (tbl_at g b hx))
          obtain ⟨T, HT2⟩ : ∃ T, Hid (strOfNums (tbl g b k) = T) := ⟨_, Lib.hid rfl⟩
          simp only [HT2.out] at hTC HAT hsz ⊢
          subst hsz
          clear hTk HAtk hA30
          go_wp2_with fail
          refine (hTC _).mono ?_
          rintro e w3 ⟨a3, c3, rfl, hl3, hb3⟩
          have HL3 := Lib.hid hl3
          have HB3 := Lib.hid (bw_call hbl.out hb3)
          clear hl3 hb3 hTC
          go_wp2
          go_loopw [14, 15] (fun c x wr => ∃ (i j : Nat) (cb : Bool), Hid (2 * i = j) ∧ Hid (j = 0 ∨ j ≤ T.size) ∧ x = .int .i64 j ∧ c = .bool cb ∧ Hid (cb = true ↔ (i = 0 ∨ b = 1)) ∧ Hid (Below w3.heap.size w3 wr)) (fun _ x _ => T.size + 1 - (intOf x).toNat)
          case atStart => exact ⟨0, 0, true, Lib.hid rfl, Lib.hid (.inl rfl), rfl, rfl, Lib.hid (by simp), Lib.hid (bw_refl _)⟩
          case round =>
            obtain ⟨i, j, cb, hij, hj, rfl, rfl, hcb, hw⟩ := hrel
            by_cases hlt : j + 1 < T.size
            · obtain ⟨u, v, h1, h2, e1, e2, e3, r3, r4, r5, r6, r7⟩ := pair_at Hg.out hb HAT.out hij.out hlt rfl hn16
              have HNx := Lib.hid (single_next hb hcb.out)
              have HJ : Hid (2 * (i + 1) = j + 2) := Lib.hid (twice_next hij.out)
              have HJ2 : Hid (j + 2 = 0 ∨ j + 2 ≤ T.size) := Lib.hid (pair_le HEv.out HN.out hij.out hlt)
              obtain ⟨d, HDd⟩ : ∃ d, Hid (decide (b = 1) = d) := ⟨_, Lib.hid rfl⟩
              rw [HDd.out] at HNx e3
              clear hL3 hL6 hn16 hb
              cases cb with
              | true =>
                go_wp2
                go_quiet (fail)
                go_wp2
                go_roundw
                case rel => exact ⟨i + 1, j + 2, (true && d), HJ, HJ2, (by rw [r7]; exact num2 j), rfl, HNx, Lib.hid (by first | exact bw_drewN hw.out _ | exact bw_drew hw.out | exact hw.out)⟩
                case measure => rw [r7]; exact left3 hlt
              | false =>
                go_wp2
                go_quiet (fail)
                go_wp2
                go_roundw
                case rel => exact ⟨i + 1, j + 2, (false && d), HJ, HJ2, (by rw [r7]; exact num2 j), rfl, HNx, Lib.hid (by first | exact bw_drewN hw.out _ | exact bw_drew hw.out | exact hw.out)⟩
                case measure => rw [r7]; exact left3 hlt
            · have HSg := Lib.hid (single_end HEv.out HN.out hn0 hij.out hj.out hlt hcb.out)
              obtain ⟨x1, x2⟩ := exit_facts hj.out hlt hn16
              have h0L : 0 < (nl L).length := by rw [nl_len]; exact List.length_pos_iff.2 HL2.out
              obtain ⟨gx, rfl, _, hg2, hcl, _⟩ := (HL3.out.later hw.out).cells h0L
              have HCl := Lib.hid hcl
              have hM16 : (nl L).length ≤ 16 := by rw [nl_len]; exact Nat.le_trans hL3 hn16
              have HLA := Lib.hid (fun (k : Nat) (hk : k < (nl L).length) => len_at HL4.out HL5.out hL6 hn16 hk)
              have HB4 := Lib.hid (bw_call HB3.out hw.out)
              have HE := Lib.hid (end_law (V := V) HL7.out HSg.out hL6)
              clear hcl hL3 hL6 hn16 hb hlt hn0 hg2
              obtain ⟨xs, HXs⟩ : ∃ xs, Hid (nl L = xs) := ⟨_, Lib.hid rfl⟩
              simp only [HXs.out] at HCl HLA HE h0L ⊢
              obtain ⟨M, HM⟩ : ∃ M, Hid (xs.length = M) := ⟨_, Lib.hid rfl⟩
              simp only [HXs.out, HM.out] at hM16
              simp only [HM.out] at HCl HLA h0L ⊢
              have h0M : (0 : Int) < (M : Int) := pos_cast h0L
              obtain ⟨wo, rfl⟩ : ∃ wo : World, wo = wr := ⟨_, rfl⟩
              go_wp2
              go_loopw [16, 17] (fun s x wr => ∃ k : Nat, k ≤ M ∧ x = .int .i64 k ∧ s = .int .i64 (xs.take k).sum ∧ Hid (Below wo.heap.size wo wr)) (fun _ x _ => M - (intOf x).toNat)
              case atStart => exact ⟨0, Nat.zero_le _, rfl, rfl, Lib.hid (bw_refl _)⟩
              case round =>
                obtain ⟨k, hk, rfl, rfl, hw2⟩ := hrel
                clear x1 x2 hsl hs3
                by_cases hlt : k < M
                · obtain ⟨v, sm, s2, E1, E2, E3, E4, e5, e6, e7, r1, r2, hcase⟩ := HLA.out k hlt
                  have q1 := (hw2.out.cell (p := ⟨gx, k, none⟩) (World.block_lt_of_cell? wo _ (HCl.out k hlt))).trans (HCl.out k hlt)
                  rw [E1] at q1
                  rw [E2]
                  clear E4 e6
                  rcases hcase with rfl | ⟨k0, p, K0, hk0, E0, r0, v0, v1, v2, r3, r4, r5⟩
                  · go_wp2
                    go_quiet (fail)
                    go_wp2
                    go_roundw
                    case rel => exact ⟨0 + 1, Nat.succ_le_of_lt hlt, by go_num, (by first | rw [E3, e5] | rw [E3]), Lib.hid (by first | exact bw_drewN hw2.out _ | exact bw_drew hw2.out | exact hw2.out)⟩
                    case measure => exact left1 hlt
                  · have q2 := (hw2.out.cell (p := ⟨gx, k0, none⟩) (World.block_lt_of_cell? wo _ (HCl.out k0 hk0))).trans (HCl.out k0 hk0)
                    rw [E0] at q2
                    have HE3 := Lib.hid E3
                    have HE5 := Lib.hid e5
                    have Z2 := Lib.hid (show 0 < k by rw [← K0]; exact Nat.succ_pos _)
                    have Z1 := Lib.hid (one_wrap (k := k) (M := M) hlt hM16)
                    have V0 := Lib.hid v0
                    have R0 := Lib.hid r0
                    clear E0 E1 E2 E3 K0 v0 v1 v2 r3 r0
                    go_wp2
                    have z2' := Z2.out
                    have z3' : decide (0 < k) = true := decide_eq_true z2'
                    have v0 := V0.out
                    have r0 := R0.out
                    clear e5
                    go_quiet (fail)
                    clear v0 z3' r0
                    go_wp2
                    go_roundw
                    case rel => exact ⟨k + 1, Nat.succ_le_of_lt hlt, (by first | with_reducible exact num1 k | (rw [Z1.out]; exact num1 k)), (by first | rw [HE3.out, HE5.out] | rw [HE3.out]), Lib.hid (by first | exact bw_drewN hw2.out _ | exact bw_drew hw2.out | exact hw2.out)⟩
                    case measure => first | with_reducible exact left4 hlt | (rw [Z1.out]; exact left4 hlt)
                · obtain rfl : k = M := Nat.le_antisymm hk (Nat.le_of_not_lt hlt)
                  have hall : (xs.take k).sum = xs.sum := by rw [← HM.out, List.take_length]
                  rw [hall]
                  obtain ⟨f1, f2⟩ := HE.out
                  obtain ⟨sm, HSm⟩ : ∃ sm, Hid (xs.sum = sm) := ⟨_, Lib.hid rfl⟩
                  simp only [HSm.out] at f1 f2 ⊢
                  clear hall
                  go_wp2
                  go_ret
                  exact ⟨ret_bool (by simp), bw_call HB4.out hw2.out⟩
end Go.Proofs.YtdnikkmioighkaaDoor

/-
  Contract of the program's TableCycles. Condition: the text's length.
-/
import Derived.Test.YtdnikkmioighkaaDoorT5
import Derived.Deep.OwnRows
namespace Go.Proofs.YtdnikkmioighkaaDoor
open Go.RowKit
set_option linter.unusedVariables false

theorem OwnB.madeOf {base e n : Nat} {W w : World} (hb : Below base W w) (hB : base ≤ w.heap.size) (hn : n ≤ 1000000) : OwnB base e W (w.alloc (.cells (madeCells #[.bool false] n) e)) (.slice (some ⟨w.heap.size, 0, none⟩) n n) (List.replicate n false) := by
  have h := World.ownsRow_lit (base := base) (e := e) (size := 1) w (madeCells #[.bool false] n) n hB (by unfold maxLen; omega) (by simp [size_madeCells])
  rw [toList_madeCells_one] at h
  exact ⟨by simpa using h, hb.alloc hB _, by simp; omega, w.heap.size, n, by simp⟩
theorem both1 {e e' : Nat} (w : World) (n : Nat) (hn : n ≤ 1000000) : OwnI .i64 w.heap.size e w ((w.alloc (.cells #[] e)).alloc (.cells (madeCells #[.bool false] n) e')).drew (.slice (some ⟨w.heap.size, 0, none⟩) 0 0) [] ∧
    OwnB w.heap.size e' w ((w.alloc (.cells #[] e)).alloc (.cells (madeCells #[.bool false] n) e')).drew (.slice (some ⟨w.heap.size + 1, 0, none⟩) n n) (List.replicate n false) := by
  have h1 := (((OwnI.made (k := .i64) (e := e) (bw_refl w) (Nat.le_refl _)).alloc (.cells (madeCells #[.bool false] n) e')).later (bw_drew (bw_refl _)))
  have h2 := OwnB.madeOf (e := e') (bw_alloc (bw_refl w) (.cells #[] e)) (by simp) hn
  rw [show (w.alloc (.cells #[] e)).heap.size = w.heap.size + 1 by simp] at h2
  exact ⟨h1, h2.later (bw_drew (bw_refl _))⟩
theorem both2 {e e' : Nat} (w : World) (n : Nat) (hn : n ≤ 1000000) : OwnI .i64 w.heap.size e w ((w.alloc (.cells (madeCells #[.bool false] n) e')).alloc (.cells #[] e)).drew (.slice (some ⟨w.heap.size + 1, 0, none⟩) 0 0) [] ∧
    OwnB w.heap.size e' w ((w.alloc (.cells (madeCells #[.bool false] n) e')).alloc (.cells #[] e)).drew (.slice (some ⟨w.heap.size, 0, none⟩) n n) (List.replicate n false) := by
  have h1 := OwnI.made (k := .i64) (e := e) (bw_alloc (bw_refl w) (.cells (madeCells #[.bool false] n) e')) (by simp)
  rw [show (w.alloc (.cells (madeCells #[.bool false] n) e')).heap.size = w.heap.size + 1 by simp] at h1
  have h2 := OwnB.madeOf (e := e') (bw_refl w) (Nat.le_refl _) hn
  exact ⟨h1.later (bw_drew (bw_refl _)), (h2.later (bw_alloc (bw_refl _) _)).later (bw_drew (bw_refl _))⟩
theorem specL_exists {f : Nat → Nat} {n : Nat} (hf : ∀ x, x < n → f x < n) : ∀ s, s ≤ n → ∃ out, SpecL f n s out
  | 0, _ => ⟨[], SpecL.zero f n⟩
  | s + 1, hs => by
    obtain ⟨out, h⟩ := specL_exists hf s (by omega)
    by_cases c : Cyc f s ∧ Lst f s
    · obtain ⟨p, hp⟩ := c.1
      exact ⟨_, h.yes hp (hp.le hf (show s < n by omega)) c.2⟩
    · exact ⟨_, h.no c⟩
theorem infoBool : (Tryd.prog.info? 4).map (fun i => (i.zero, i.size, i.bytes)) = some (some (.bool false), 1, 1) := by kernel_rfl
set_option maxHeartbeats 2000000 in
set_option maxRecDepth 100000 in
theorem TableCycles_yes (W : Nat) (s : ByteArray) (w : World) (hs : s.size ≤ 1048576) (hyes : tcB W s = true) :
    Calls Tryd.prog 10 #[.int .i64 W, .string s] w (RetL (nl (tcL W s)) true w) := by
  have h1 : inR W 0 6 = true := by
    unfold tcB at hyes
    exact (Bool.and_eq_true_iff.1 hyes).1
  have h2 : bitsB s = true := by
    unfold tcB at hyes
    exact (Bool.and_eq_true_iff.1 (Bool.and_eq_true_iff.1 hyes).2).1
  have HT := Lib.hid (fun L => tcL_yes (L := L) hyes)
  obtain ⟨W', hW', hW, hb, hn⟩ := tcB_true hyes
  obtain rfl : W = W' := by omega
  clear hW' hyes
  have HCy := Lib.hid (fun (x p q : Nat) (w : World) h (hx : x < s.size) => cycleFrom_any s W x p q w h hb hW hn hx)
  have HSt := Lib.hid (fun (x p q : Nat) (w : World) h (hx : x < s.size) => step_any s W x p q w h hb hW hn hx)
  have HF : Hid (∀ x, x < s.size → tf s W x < s.size) := Lib.hid (by rw [hn]; exact tf_lt hb hn)
  have hn64 : s.size ≤ 64 := by rw [hn]; exact Nat.le_trans (Nat.pow_le_pow_right (by decide) hW) (by decide)
  have hq : ((s.size : Int) != ((2 ^ W : Nat) : Int)) = false := by rw [hn]; simp
  have hsl := shl_one (s := W) (by omega)
  have hs3 : IntKind.i64.wrap (2 ^ W) = ((2 ^ W : Nat) : Int) := by
    have h3 : 2 ^ W ≤ 64 := by rw [← hn]; exact hn64
    have e : (2 : Int) ^ W = ((2 ^ W : Nat) : Int) := by rw [Int.natCast_pow]; rfl
    rw [e, IntKind.wrap_i64]; omega
  obtain ⟨q, HQ⟩ : ∃ q, Hid (2 ^ W = q) := ⟨_, Lib.hid rfl⟩
  rw [HQ.out] at hq hsl hs3
  obtain ⟨f, Hf⟩ : ∃ f, Hid (tf s W = f) := ⟨_, Lib.hid rfl⟩
  simp only [Hf.out] at HT HCy HSt HF
  clear hn hb
  go_enter Tryd.func10, Tryd.ntmps10
  go_upto_region 1 with fail
  go_cut [27] (fun c wx => c = .bool false ∧ Hid (StepAt wx w.heap.size (w.heap.size + 1) W s) ∧ Hid (Below w.heap.size w wx))
  case first =>
    go_region_held3 (fun w' => w'.cell? ⟨w.heap.size, 0, none⟩ = some (.int .i64 W) ∧ w'.cell? ⟨w.heap.size + 1, 0, none⟩ = some (.string s)) (go_keep)
      (first | (go_at_call 13; (with_reducible refine (inRange_of h1 _).mono ?_); rintro e w' ⟨rfl, rfl⟩)
                   | (go_at_call 18; (with_reducible refine (IsBits_of h2 _ hs).mono ?_); rintro e w2 ⟨rfl, hb2⟩
                      have k0 : w2.cell? ⟨w.heap.size, 0, none⟩ = some (.int .i64 W) := by rw [hb2.cell (p := ⟨w.heap.size, 0, none⟩) (by simp; omega)]; simp
                      have k1 : w2.cell? ⟨w.heap.size + 1, 0, none⟩ = some (.string s) := by rw [hb2.cell (p := ⟨w.heap.size + 1, 0, none⟩) (by simp)]; simp))
    all_goals (go_wp2_with fail; go_meet; exact ⟨rfl, Lib.hid ⟨by first | exact k0 | simpa using k0, by first | exact k1 | simpa using k1⟩, Lib.hid (by first | exact bw_call (bw_drew (bw_alloc (bw_alloc (bw_refl _) _) _)) hb2 | exact bw_drew (bw_call (bw_alloc (bw_alloc (bw_refl _) _) _) hb2) | exact bw_call (bw_alloc (bw_alloc (bw_refl _) _) _) hb2)⟩)
  case rest =>
    obtain ⟨rfl, HS, HB⟩ := hcut
    obtain ⟨p, HP⟩ : ∃ p, Hid (w.heap.size = p) := ⟨_, Lib.hid rfl⟩
    simp only [HP.out] at HS ⊢
    have k1 := HS.out.tb
    have hmk : ∀ w, (Instr.makeSlice 48 (.int .i64 (s.size : Int)) (.int .i64 (s.size : Int))).run Tryd.prog w = .ok (.slice (some ⟨w.heap.size, 0, none⟩) s.size s.size) (w.alloc (.cells (madeCells #[.bool false] s.size) 4)) := fun w => run_make_row' 48 4 (.bool false) 1 Tryd.underlying48 infoBool rfl .i64 .i64 s.size (by omega) (by omega) w
    obtain ⟨wx, rfl⟩ : ∃ wx : World, wx = wc := ⟨_, rfl⟩
    have hpl := World.block_lt_of_cell? wx _ HS.out.wd
    have hpl2 := World.block_lt_of_cell? wx _ HS.out.tb
    go_upto_region 4 with fail
    go_cut [7, 8] (fun v dn wc => Hid (OwnI .i64 wx.heap.size 2 wx wc v []) ∧ Hid (OwnB wx.heap.size 4 wx wc dn (List.replicate s.size false)))
    case first =>
      go_region
      all_goals (go_wp2_with fail; go_meet)
      · exact ⟨Lib.hid (both1 wx s.size (by omega)).1, Lib.hid (both1 wx s.size (by omega)).2⟩
      · exact ⟨Lib.hid (both2 wx s.size (by omega)).1, Lib.hid (both2 wx s.size (by omega)).2⟩
    case rest =>
      --LOOP
      obtain ⟨HO, HD⟩ := hcut
      obtain ⟨gd, capd, hdv, _⟩ := HD.out.cell
      rw [List.length_replicate] at hdv
      subst hdv
      have HSk : Hid (∀ w', Below wx.heap.size wx w' → StepAt w' p (p + 1) W s) := Lib.hid fun w' hb => HS.out.under hb hpl hpl2
      have k2 := (HSk.out _ HO.out.below).tb
      clear hmk k1
      go_wp2
      clear k2
      go_loopw [7, 35] (fun v i wr => ∃ (k : Nat) (out : List Nat) (bs : List Bool), k ≤ s.size ∧ i = .int .i64 k ∧ Hid (ImplL f s.size k (fun z => bs.getD z false) out) ∧ Hid (bs.length = s.size) ∧ Hid (out.length ≤ k) ∧ Hid (OwnI .i64 wx.heap.size 2 wx wr v (nl out)) ∧ Hid (OwnB wx.heap.size 4 wx wr (.slice (some ⟨gd, 0, none⟩) s.size capd) bs)) (fun _ i _ => s.size - (intOf i).toNat)
      case atStart => exact ⟨0, [], List.replicate s.size false, Nat.zero_le _, rfl, Lib.hid (by have h := ImplL.zero f s.size; rwa [show (fun z => (List.replicate s.size false).getD z false) = fun _ => false from funext fun z => by simp only [List.getD, List.getElem?_replicate]; split <;> rfl]), Lib.hid (by simp), Lib.hid (Nat.le_refl _), HO, HD⟩
      case round =>
        obtain ⟨k, out, bs, hk, rfl, him, hbl, hol, ho, hd⟩ := hrel
        obtain ⟨g0, cap0, rfl, _⟩ := ho.out.nat
        by_cases hlt : k < s.size
        · have HSr := Lib.hid (HSk.out _ ho.out.below)
          have k3 := HSr.out.tb
          go_wp2_with fail
          refine (HCy.out k p (p + 1) _ HSr.out hlt).mono ?_
          rintro e w1 ⟨b, per, hbp, rfl, hb1⟩
          have HBP := Lib.hid hbp
          have hper := hbp.le HF.out hlt
          have HO1 := Lib.hid (ho.out.later hb1)
          have HD1 := Lib.hid (hd.out.later hb1)
          clear k3 hbp hb1
          go_wp2
          go_loopw [12, 48] (fun st i wr => ∃ j n : Nat, j ≤ b ∧ i = .int .i64 j ∧ st = .int .i64 (jt f j k : Nat) ∧ wr = w1.drewN n) (fun _ i _ => b - (intOf i).toNat)
          case atStart => exact ⟨0, 0, Nat.zero_le _, rfl, rfl, rfl⟩
          case round =>
            obtain ⟨j, n, hjb, rfl, rfl, rfl⟩ := hrel
            have hxj := jt_lt HF.out hlt j
            by_cases hjl : j < b
            · have HSr2 := Lib.hid (HSk.out _ (HO1.out.drewN n).below)
              have HX : Hid (f (jt f j k) = jt f (j + 1) k) := Lib.hid rfl
              obtain ⟨x, HXx⟩ : ∃ x, Hid (jt f j k = x) := ⟨_, Lib.hid rfl⟩
              rw [HXx.out] at hxj HX ⊢
              have hcc := fun w1 h => HSt.out x p (p + 1) w1 h hxj
              obtain ⟨x2, HX3⟩ : ∃ x2, Hid (f x = x2) := ⟨_, Lib.hid rfl⟩
              simp only [HX3.out] at hcc
              rw [HX3.out] at HX
              go_wp2_with (go_at_call 19; refine (hcc _ HSr2.out).mono ?_; rintro e w9 ⟨rfl, n9, rfl⟩)
              go_roundw
              case rel => exact ⟨j + 1, n + n9, by omega, by go_num, by rw [HX.out], rfl⟩
              case measure => simp [intOf]; omega
            · have hje : j = b := by omega
              subst hje
              obtain ⟨y, HY⟩ : ∃ y, Hid (jt f j k = y) := ⟨_, Lib.hid rfl⟩
              have hy := hxj
              have HB2 := Lib.hid HBP.out
              rw [HY.out] at hy ⊢
              have HO2 := Lib.hid (HO1.out.drewN n)
              have HD2 := Lib.hid (HD1.out.drewN n)
              obtain ⟨g9, cap9, hv9, _, _, _, h5, h6⟩ := HD2.out.cell
              simp only [Value.slice.injEq, Option.some.injEq, Addr.mk.injEq, and_true] at hv9
              obtain ⟨hg9, hx9, hy9⟩ := hv9
              subst hg9
              clear hx9 hy9
              have q1 := h5 y (by rw [hbl.out]; exact hy)
              clear h5 h6
              cases hbq : bs.getD y false with
              | true =>
                rw [hbq] at q1
                have HBq := Lib.hid hbq
                clear hbq
                go_wp2
                go_loopw [12, 64] (fun st i wr => ∃ (j : Nat) (bs' : List Bool), j ≤ per ∧ i = .int .i64 j ∧ st = .int .i64 (jt f j y : Nat) ∧ Hid (bs'.length = s.size) ∧ Hid (∀ z, bs'.getD z false = true ↔ bs.getD z false = true ∨ ∃ i, i < j ∧ z = jt f i y) ∧ Hid (OwnI .i64 wx.heap.size 2 wx wr (.slice (some ⟨g0, 0, none⟩) out.length cap0) (nl out)) ∧ Hid (OwnB wx.heap.size 4 wx wr (.slice (some ⟨gd, 0, none⟩) s.size capd) bs')) (fun _ i _ => per - (intOf i).toNat)
                case atStart => exact ⟨0, bs, Nat.zero_le _, rfl, rfl, hbl, Lib.hid (fun z => ⟨fun h => .inl h, fun h => by rcases h with h | ⟨i, hi, _⟩; exact h; omega⟩), HO2, HD2⟩
                case round =>
                  obtain ⟨j, bs', hjp, rfl, rfl, hbl2, hmark, ho2, hd2⟩ := hrel
                  by_cases hjl : j < per
                  · have hxj := jt_lt HF.out hy j
                    have HSr := Lib.hid (HSk.out _ ho2.out.below)
                    have HX : Hid (f (jt f j y) = jt f (j + 1) y) := Lib.hid rfl
                    obtain ⟨x, HXx⟩ : ∃ x, Hid (jt f j y = x) := ⟨_, Lib.hid rfl⟩
                    rw [HXx.out] at hxj HX ⊢
                    have HX2 : Hid (∀ z, (bs'.set x true).getD z false = true ↔ bs.getD z false = true ∨ ∃ i, i < j + 1 ∧ z = jt f i y) := Lib.hid fun z => by
                      by_cases e : z = x
                      · subst e
                        have hl2 := hbl2.out
                        constructor
                        · intro _; exact .inr ⟨j, by omega, HXx.out.symm⟩
                        · intro _; simp [List.getD, show z < bs'.length by omega]
                      · have h1 : (bs'.set x true).getD z false = bs'.getD z false := by
                          simp only [List.getD, List.getElem?_set_ne (Ne.symm e)]
                        rw [h1, hmark.out z]
                        constructor
                        · rintro (h | ⟨i, h2, h3⟩)
                          · exact .inl h
                          · exact .inr ⟨i, by omega, h3⟩
                        · rintro (h | ⟨i, h2, h3⟩)
                          · exact .inl h
                          · by_cases q : i = j
                            · subst q; rw [HXx.out] at h3; exact absurd h3 e
                            · exact .inr ⟨i, by omega, h3⟩
                    have HL2 : Hid ((bs'.set x true).length = s.size) := Lib.hid (by rw [List.length_set, hbl2.out])
                    have HD2 : Hid (OwnB wx.heap.size 4 wx (wr.setCell ⟨gd, x, none⟩ (.bool true)) (.slice (some ⟨gd, 0, none⟩) s.size capd) (bs'.set x true)) := Lib.hid (by
                      have h1 := hd2.out
                      rw [← hbl2.out] at h1 ⊢
                      exact h1.stored x true)
                    have HO2 : Hid (OwnI .i64 wx.heap.size 2 wx (wr.setCell ⟨gd, x, none⟩ (.bool true)) (.slice (some ⟨g0, 0, none⟩) out.length cap0) (nl out)) := Lib.hid (ho2.out.other hd2.out (by decide))
                    have HSr2 := Lib.hid (HSk.out _ HO2.out.below)
                    have hcc := fun w1 h => HSt.out x p (p + 1) w1 h hxj
                    obtain ⟨x2, HX3⟩ : ∃ x2, Hid (f x = x2) := ⟨_, Lib.hid rfl⟩
                    simp only [HX3.out] at hcc
                    rw [HX3.out] at HX
                    obtain ⟨g9, cap9, hv9, _, _, _, h5, h6⟩ := hd2.out.cell
                    simp only [Value.slice.injEq, Option.some.injEq, Addr.mk.injEq, and_true] at hv9
                    obtain ⟨hg9, hx9, hy9⟩ := hv9
                    subst hg9
                    clear hx9 hy9
                    have q1 := h5 x (by rw [hbl2.out]; exact hxj)
                    have q2 := h6 x
                    clear h5 h6
                    obtain ⟨bq, HBq⟩ : ∃ bq, Hid (bs'.getD x false = bq) := ⟨_, Lib.hid rfl⟩
                    rw [HBq.out] at q1
                    go_wp2_with (go_at_call 19; refine (hcc _ HSr2.out).mono ?_; rintro e w9 ⟨rfl, n9, rfl⟩)
                    go_roundw
                    case rel => exact ⟨j + 1, bs'.set x true, by omega, by go_num, by rw [HX.out], HL2, HX2, Lib.hid (HO2.out.drewN _), Lib.hid (HD2.out.drewN _)⟩
                    case measure => simp [intOf]; omega
                  · have hje : per = j := by omega
                    subst hje
                    have HIm : Hid (ImplL f s.size (k + 1) (fun z => bs'.getD z false) out) := Lib.hid (him.out.old HB2.out (by rw [HY.out]; exact HBq.out) (by rw [HY.out]; exact hmark.out))
                    go_wp2
                    go_roundw
                    case rel => exact ⟨k + 1, out, bs', by omega, by go_num, HIm, hbl2, Lib.hid (by have := hol.out; omega), ho2, hd2⟩
                    case measure => simp [intOf]; omega
              | false =>
                rw [hbq] at q1
                have HBq := Lib.hid hbq
                have HL : Hid ((nl out).length < 1000000000000) := Lib.hid (by have := hol.out; rw [nl_len]; omega)
                have HNl : Hid (nl out ++ [(per : Int)] = nl (out ++ [per])) := Lib.hid (by rw [nl_snoc])
                have hpp := HB2.out.1
                clear hbq
                go_wp2_with (at_builtin; refine wpAppG tI rfl _ _ rfl rfl HO2.out rfl (by decide) HL.out (out.length + 1) (by rw [nl_len]) ?_; intro g7 cap7 w7 hown7 hoth hsz7)
                have HD7 := Lib.hid (HD2.out.other HO2.out hown7 (by decide) hoth hsz7)
                have HO7 : Hid (OwnI .i64 wx.heap.size 2 wx w7 (.slice (some ⟨g7, 0, none⟩) (out.length + 1) cap7) (nl (out ++ [per]))) := Lib.hid (by rw [← HNl.out]; exact hown7)
                clear hown7 hoth hsz7
                go_loopw [12, 64] (fun st i wr => ∃ (j : Nat) (bs' : List Bool), j ≤ per ∧ i = .int .i64 j ∧ st = .int .i64 (jt f j y : Nat) ∧ Hid (bs'.length = s.size) ∧ Hid (∀ z, bs'.getD z false = true ↔ bs.getD z false = true ∨ ∃ i, i < j ∧ z = jt f i y) ∧ Hid (OwnI .i64 wx.heap.size 2 wx wr (.slice (some ⟨g7, 0, none⟩) (out.length + 1) cap7) (nl (out ++ [per]))) ∧ Hid (OwnB wx.heap.size 4 wx wr (.slice (some ⟨gd, 0, none⟩) s.size capd) bs')) (fun _ i _ => per - (intOf i).toNat)
                case atStart => exact ⟨0, bs, Nat.zero_le _, rfl, rfl, hbl, Lib.hid (fun z => ⟨fun h => .inl h, fun h => by rcases h with h | ⟨i, hi, _⟩; exact h; omega⟩), HO7, HD7⟩
                case round =>
                  obtain ⟨j, bs', hjp, rfl, rfl, hbl2, hmark, ho2, hd2⟩ := hrel
                  by_cases hjl : j < per
                  · have hxj := jt_lt HF.out hy j
                    have HSr := Lib.hid (HSk.out _ ho2.out.below)
                    have HX : Hid (f (jt f j y) = jt f (j + 1) y) := Lib.hid rfl
                    obtain ⟨x, HXx⟩ : ∃ x, Hid (jt f j y = x) := ⟨_, Lib.hid rfl⟩
                    rw [HXx.out] at hxj HX ⊢
                    have HX2 : Hid (∀ z, (bs'.set x true).getD z false = true ↔ bs.getD z false = true ∨ ∃ i, i < j + 1 ∧ z = jt f i y) := Lib.hid fun z => by
                      by_cases e : z = x
                      · subst e
                        have hl2 := hbl2.out
                        constructor
                        · intro _; exact .inr ⟨j, by omega, HXx.out.symm⟩
                        · intro _; simp [List.getD, show z < bs'.length by omega]
                      · have h1 : (bs'.set x true).getD z false = bs'.getD z false := by
                          simp only [List.getD, List.getElem?_set_ne (Ne.symm e)]
                        rw [h1, hmark.out z]
                        constructor
                        · rintro (h | ⟨i, h2, h3⟩)
                          · exact .inl h
                          · exact .inr ⟨i, by omega, h3⟩
                        · rintro (h | ⟨i, h2, h3⟩)
                          · exact .inl h
                          · by_cases q : i = j
                            · subst q; rw [HXx.out] at h3; exact absurd h3 e
                            · exact .inr ⟨i, by omega, h3⟩
                    have HL2 : Hid ((bs'.set x true).length = s.size) := Lib.hid (by rw [List.length_set, hbl2.out])
                    have HD2 : Hid (OwnB wx.heap.size 4 wx (wr.setCell ⟨gd, x, none⟩ (.bool true)) (.slice (some ⟨gd, 0, none⟩) s.size capd) (bs'.set x true)) := Lib.hid (by
                      have h1 := hd2.out
                      rw [← hbl2.out] at h1 ⊢
                      exact h1.stored x true)
                    have HO2 : Hid (OwnI .i64 wx.heap.size 2 wx (wr.setCell ⟨gd, x, none⟩ (.bool true)) (.slice (some ⟨g7, 0, none⟩) (out.length + 1) cap7) (nl (out ++ [per]))) := Lib.hid (ho2.out.other hd2.out (by decide))
                    have HSr2 := Lib.hid (HSk.out _ HO2.out.below)
                    have hcc := fun w1 h => HSt.out x p (p + 1) w1 h hxj
                    obtain ⟨x2, HX3⟩ : ∃ x2, Hid (f x = x2) := ⟨_, Lib.hid rfl⟩
                    simp only [HX3.out] at hcc
                    rw [HX3.out] at HX
                    obtain ⟨g9, cap9, hv9, _, _, _, h5, h6⟩ := hd2.out.cell
                    simp only [Value.slice.injEq, Option.some.injEq, Addr.mk.injEq, and_true] at hv9
                    obtain ⟨hg9, hx9, hy9⟩ := hv9
                    subst hg9
                    clear hx9 hy9
                    have q1 := h5 x (by rw [hbl2.out]; exact hxj)
                    have q2 := h6 x
                    clear h5 h6
                    obtain ⟨bq, HBq⟩ : ∃ bq, Hid (bs'.getD x false = bq) := ⟨_, Lib.hid rfl⟩
                    rw [HBq.out] at q1
                    go_wp2_with (go_at_call 19; refine (hcc _ HSr2.out).mono ?_; rintro e w9 ⟨rfl, n9, rfl⟩)
                    go_roundw
                    case rel => exact ⟨j + 1, bs'.set x true, by omega, by go_num, by rw [HX.out], HL2, HX2, Lib.hid (HO2.out.drewN _), Lib.hid (HD2.out.drewN _)⟩
                    case measure => simp [intOf]; omega
                  · have hje : per = j := by omega
                    subst hje
                    have HIm : Hid (ImplL f s.size (k + 1) (fun z => bs'.getD z false) (out ++ [per])) := Lib.hid (him.out.new HF.out hlt HB2.out (by rw [HY.out]; exact HBq.out) (by rw [HY.out]; exact hmark.out))
                    go_wp2
                    go_roundw
                    case rel => exact ⟨k + 1, (out ++ [per]), bs', by omega, by go_num, HIm, hbl2, Lib.hid (by have := hol.out; rw [List.length_append]; simp; omega), ho2, hd2⟩
                    case measure => simp [intOf]; omega
        · have hke : k = s.size := by omega
          subst hke
          have hlo : out.length ≤ s.size := hol.out
          obtain ⟨L, hL1, hL2, hL3⟩ := nl_sorted out
          have HTC : Hid (tcL W s = L) := Lib.hid (HT.out L (by
            obtain ⟨out', hsp⟩ := specL_exists HF.out s.size (Nat.le_refl _)
            exact ⟨hL2, out', hsp, hL3.trans (both_perm him.out hsp)⟩))
          have HLl := Lib.hid hL3.length_eq
          have hS := fun w1 v h => Sort_any (nl out) v wx.heap.size wx w1 h (by rw [nl_len]; omega)
          rw [hL1] at hS
          clear hL1 hL2 hL3
          go_wp2_with fail
          refine (hS _ _ ho.out).mono ?_
          rintro e w8 ⟨rfl, hso, hgrow⟩
          have HSo := Lib.hid hso
          clear hS hgrow hso
          go_wp2
          go_ret2
          have hv := HSo.out.hasL
          obtain ⟨a', c', hv, hh⟩ := hv
          simp only [Value.slice.injEq] at hv
          obtain ⟨rfl, hlen, rfl⟩ := hv
          rw [HTC.out]
          refine ⟨_, _, ?_, hh.mono HB.out.size, bw_call HB.out HSo.out.below⟩
          rw [← hlen]
          rfl
      --LOOPEND
theorem TableCycles_any (wd : Int) (s : ByteArray) (w : World) (hs : s.size ≤ 1048576) :
    Calls Tryd.prog 10 #[.int .i64 wd, .string s] w (RetL (nl (tcL wd s)) (tcB wd s) w) := by
  cases h : tcB wd s with
  | true =>
    obtain ⟨W, rfl, _⟩ := tcB_true h
    exact TableCycles_yes W s w hs h
  | false => have := TableCycles_no wd s w hs h; rwa [h] at this
end Go.Proofs.YtdnikkmioighkaaDoor

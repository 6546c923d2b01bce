/-
  Walk of the law FnBits: it returns true for every argument. No condition.
-/
import Derived.Test.YtpppdlgmhedaeaaDoorM11
import Derived.Test.YtpppdlgmhedaeaaDoorC4
import Derived.Test.YtpppdlgmhedaeaaDoorC8
import Derived.Test.YtpppdlgmhedaeaaDoorC25
namespace Go.Proofs.YtpppdlgmhedaeaaDoor
open Go.RowKit
set_option linter.unusedVariables false

theorem b10Sum_any (xs : List Int) (a : Option Addr) (c base : Nat) (w : World) (h : HasL base w a c xs) (hx : xs.length < 1000000000000) (hb : ∀ k, k ≤ xs.length → 0 ≤ (xs.take k).sum ∧ (xs.take k).sum ≤ 1000000) :
    Calls Tryd.prog 41 #[.slice a xs.length c] w fun e w' => e = .returned (.int .i64 xs.sum) ∧ w = w' := by
  rcases Nat.eq_zero_or_pos xs.length with h0 | h0
  · have hx0 : xs = [] := List.eq_nil_of_length_eq_zero h0
    subst hx0
    go_enter Tryd.func41, Tryd.ntmps41
    go_wp2
    go_loop [3, 4] (fun s i => i = .int .i64 0 ∧ s = .int .i64 0) (fun _ _ => 0)
    case atStart => exact ⟨rfl, rfl⟩
    case round =>
      obtain ⟨rfl, rfl⟩ := hrel
      go_wp2
      go_ret
      exact ⟨rfl, rfl⟩
  · obtain ⟨g, rfl, _, _, hc, _⟩ := h.cells h0
    have HC := Lib.hid hc
    have HB := Lib.hid hb
    clear hb hc
    obtain ⟨n, HN⟩ : ∃ n, Hid (xs.length = n) := ⟨_, Lib.hid rfl⟩
    rw [HN.out] at h0 hx ⊢
    go_enter Tryd.func41, Tryd.ntmps41
    go_wp2
    go_loop [3, 4] (fun s i => ∃ k : Nat, k ≤ n ∧ i = .int .i64 k ∧ s = .int .i64 (xs.take k).sum) (fun _ i => n - (intOf i).toNat)
    case atStart => exact ⟨0, Nat.zero_le _, rfl, rfl⟩
    case round =>
      obtain ⟨k, hk, rfl, rfl⟩ := hrel
      by_cases hlt : k < n
      · have hlx : k < xs.length := by rw [HN.out]; exact hlt
        have q1 := HC.out k hlx
        have s0 := HB.out k (by rw [HN.out]; omega)
        have s1 := HB.out (k + 1) (by rw [HN.out]; omega)
        have e1 : (xs.take (k + 1)).sum = (xs.take k).sum + xs.getD k 0 := by
          rw [List.take_add_one, List.sum_append, List.getElem?_eq_getElem hlx]
          simp [List.getD, hlx]
        obtain ⟨x, HX⟩ : ∃ x, Hid (xs.getD k 0 = x) := ⟨_, Lib.hid rfl⟩
        obtain ⟨y, HY⟩ : ∃ y, Hid ((xs.take k).sum = y) := ⟨_, Lib.hid rfl⟩
        rw [HX.out] at q1 e1
        rw [HY.out] at s0 e1 ⊢
        have HE := Lib.hid e1
        rw [e1] at s1
        clear e1
        have r1 : (k : Int) < (n : Int) := by omega
        go_wp2
        go_round
        case rel => exact ⟨k + 1, by omega, by go_num, by rw [HE.out]⟩
        case measure => simp [intOf]; omega
      · have hke : k = n := by omega
        subst hke
        have e : (xs.take k).sum = xs.sum := by rw [← HN.out, List.take_length]
        rw [e]
        go_wp2
        go_ret
        exact ⟨rfl, rfl⟩
theorem take_sum_bd {xs : List Int} (h : ∀ x ∈ xs, 1 ≤ x) (k : Nat) : 0 ≤ (xs.take k).sum ∧ (xs.take k).sum ≤ xs.sum := by
  have nn : ∀ l : List Int, (∀ x ∈ l, 1 ≤ x) → 0 ≤ l.sum := by
    intro l
    induction l with
    | nil => intro _; simp
    | cons a l ih =>
      intro hl
      have := ih (fun x hx => hl x (List.mem_cons_of_mem _ hx))
      have := hl a List.mem_cons_self
      simp only [List.sum_cons]; omega
  have h1 := nn (xs.take k) (fun x hx => h x (List.mem_of_mem_take hx))
  have h2 := nn (xs.drop k) (fun x hx => h x (List.mem_of_mem_drop hx))
  have e : (xs.take k).sum + (xs.drop k).sum = xs.sum := by rw [← List.sum_append, List.take_append_drop]
  omega

set_option maxRecDepth 100000 in
set_option maxHeartbeats 4000000 in
theorem FnBits_walk (a0 : Option Addr) (l0 c0 : Nat) (z0 : List Int) (a1 : Option Addr) (l1 c1 : Nat) (z1 : List Int) (w : World) (h0 : IsRow .u8 w a0 l0 c0 z0) (h1 : IsRow .u8 w a1 l1 c1 z1) :
    Calls Tryd.prog 12 #[.slice a0 l0 c0, .slice a1 l1 c1] w fun e w' => e = .returned (.bool true) ∧ Below w.heap.size w w' := by
  have m0 := h0.len_le.1
  have m1 := h1.len_le.1
  have H0 := Lib.hid h0
  have H1 := Lib.hid h1
  clear h0 h1
  cases hL : long2 l0 l1 with
  | true =>
    go_enter Tryd.func12, Tryd.ntmps12
    go_wp2_with (go_at_call 36; refine (b10Long_of m0 m1 hL).mono ?_; rintro e w' ⟨rfl, rfl⟩)
    go_ret
    exact ⟨rfl, bw_refl _⟩
  | false =>
    go_enter Tryd.func12, Tryd.ntmps12
    go_wp2_with fail
    refine (b10Long_of m0 m1 hL).mono ?_
    rintro e w' ⟨rfl, rfl⟩
    go_wp2_with fail
    refine (B10Bits_any a0 l0 c0 z0 _ H0.out).mono ?_
    rintro e w1 ⟨xs, rfl, hx40, hxb, hb1⟩
    have hbt := bits_nums hxb
    have hsz := strOfNums_size xs
    obtain ⟨a, ha⟩ : ∃ a, strOfNums xs = a := ⟨_, rfl⟩
    rw [ha] at hbt hsz ⊢
    have ha40 : a.size ≤ 40 := by omega
    have HBA := Lib.hid hbt
    have HB1 := Lib.hid hb1
    clear hx40 hxb hsz ha hbt hb1
    have nb := numL_60 HBA.out (by omega) (Nat.le_refl a.size)
    have eB : bitsB a = true := by rw [bitsB_all HBA.out]; simp; omega
    have eN : nbB a = true := by simp [nbB, eB]; omega
    have eM := (nbB_true eN).2.2
    obtain ⟨eb1, eb2⟩ := boB_num HBA.out (by omega : a.size ≤ 60)
    obtain ⟨N, HN⟩ : ∃ N, Hid (numL a a.size = N) := ⟨_, Lib.hid rfl⟩
    rw [HN.out] at nb eM eb1 eb2
    go_wp2_with fail
    refine (NumberOfBits_any a _ (by omega)).mono ?_
    rintro e w2 ⟨rfl, hb2⟩
    rw [eM, eN]
    have HB2 := Lib.hid (bw_call HB1.out hb2)
    clear hb2 HB1
    go_wp2_with fail
    refine (BitsOf_any N a.size _ (by omega) (by omega)).mono ?_
    rintro e w3 ⟨rfl, hb3⟩
    rw [eb1, eb2]
    have HB3 := Lib.hid (bw_call HB2.out hb3)
    clear hb3 HB2
    have eR : rnR a = runL a a.size := by simp [rnR, eB]
    obtain ⟨R, hR⟩ : ∃ R, runL a a.size = R := ⟨_, rfl⟩
    have hRL : ∀ w, Calls Tryd.prog 28 #[.string a] w fun e w' => RetL R true w e w' := fun w => by
      have := RunLengths_any a w (by omega)
      rw [eR, eB, hR] at this
      exact this
    have RS : Hid (R.sum = a.size) := Lib.hid (by rw [← hR]; exact runL_sum a a.size)
    have RB : Hid (∀ x ∈ R, 1 ≤ x) := Lib.hid (by rw [← hR]; exact fun x hx => (runL_bd a a.size x hx).1)
    have RL : Hid (R.length = chg a a.size) := Lib.hid (by rw [← hR]; exact chg_len a a.size)
    have RN : Hid (R.length < 1000000000000) := Lib.hid (by have := (runL_len a a.size).1; rw [hR] at this; omega)
    have hSum : ∀ (ar : Option Addr) (cr base : Nat) (wq : World), HasL base wq ar cr R → Calls Tryd.prog 41 #[.slice ar R.length cr] wq fun e w' => e = .returned (.int .i64 a.size) ∧ wq = w' := fun ar cr base wq h => by
      have := b10Sum_any R ar cr base wq h RN.out (fun k _ => by have h1 := take_sum_bd RB.out k; rw [RS.out] at h1; omega)
      rw [RS.out] at this
      exact this
    have hOO : ∀ w, Calls Tryd.prog 35 #[.string a] w fun e w' => e = .returned (.tuple #[.int .i64 (oneL a a.size), .bool true]) ∧ Below w.heap.size w w' := fun w => by
      have := OnesOf_any a w (by omega)
      rw [eB, show ooN a = oneL a a.size by simp [ooN, eB]] at this
      exact this
    clear hR eR
    obtain ⟨nr, HNR⟩ : ∃ nr, Hid (R.length = nr) := ⟨_, Lib.hid rfl⟩
    rw [HNR.out] at hSum
    go_wp2_with fail
    refine (hRL _).mono ?_
    rintro e w4 ⟨ar, cr, rfl, hr4, hb4⟩
    have HB4 := Lib.hid (bw_call HB3.out hb4)
    have HR4 := Lib.hid hr4
    clear hb4 HB3 hr4
    rw [HNR.out]
    go_wp2_with fail
    refine (hOO _).mono ?_
    rintro e w5 ⟨rfl, hb5⟩
    have HB5 := Lib.hid (bw_call HB4.out hb5)
    have HR5 := Lib.hid (HR4.out.later hb5)
    clear hb5 HB4 HR4
    go_wp2
    go_loopw [14, 15] (fun v i wr => ∃ (k : Nat) (ys : List Int), k ≤ a.size ∧ i = .int .i64 k ∧ Hid (ys.length = k) ∧ Hid (∀ y ∈ ys, y = 48 ∨ y = 49) ∧ Hid (OwnI .u8 w5.heap.size 5 w5 wr v ys)) (fun _ i _ => a.size - (intOf i).toNat)
    case atStart => exact ⟨0, [], Nat.zero_le _, rfl, Lib.hid rfl, Lib.hid (by simp), Lib.hid (OwnI.made (bw_refl _) (Nat.le_refl _))⟩
    case round =>
      obtain ⟨k, ys, hk, rfl, hlen, hall, ho⟩ := hrel
      by_cases hlt : k < a.size
      · have H1r : Hid (IsRow .u8 wr a1 l1 c1 z1) := Lib.hid ((H1.out.below HB5.out).below (Below.mono ho.out.below (Nat.le_refl _)))
        obtain ⟨z, HZ⟩ : ∃ z, Hid (b10 z1 l1 k 2 = z) := ⟨_, Lib.hid rfl⟩
        have zb := b10_lt z1 l1 k (n := 2) (by omega)
        rw [HZ.out] at zb
        have zb' : z = 0 ∨ z = 1 := by omega
        have u1 : IntKind.u8.wrap (48 + z) = 48 + z := IntWalk.u8_in _ (by omega)
        have HLy : Hid (ys.length < 1000000000000) := Lib.hid (by have := hlen.out; omega)
        have HLn : Hid ((ys ++ [48 + z]).length = k + 1) := Lib.hid (by have := hlen.out; simp; omega)
        have HA : Hid (∀ y ∈ ys ++ [48 + z], y = 48 ∨ y = 49) := Lib.hid fun y hy => by
          rcases List.mem_append.1 hy with h | h
          · exact hall.out y h
          · simp only [List.mem_singleton] at h; omega
        clear zb'
        go_wp2_with (first | (go_at_call 39; refine (b10At_of H1r.out (by omega) (by omega) (by omega) HZ).mono ?_; rintro e w' ⟨rfl, rfl⟩) | (at_builtin; refine wpApp tB rfl _ _ rfl rfl ho.out rfl (by decide) HLy.out ?_; intro v' w7 hown7))
        go_roundw
        case rel => exact ⟨k + 1, _, by omega, by go_num, HLn, HA, Lib.hid hown7⟩
        case measure => simp [intOf]; omega
      · have hke : k = a.size := by omega
        subst hke
        have hob := bits_nums hall.out
        have hos := strOfNums_size ys
        have hby : ∀ j, j < ys.length → byt (strOfNums ys) j = ys.getD j 0 := fun j hj => byt_nums hall.out hj
        obtain ⟨o, hoo⟩ : ∃ o, strOfNums ys = o := ⟨_, rfl⟩
        have HCV : Hid (∀ wq, Below wr.heap.size wr wq → (convert 38 9 u14).run Tryd.prog wq = .ok (.string o) wq) := Lib.hid fun wq hq => by
          rw [← hoo]
          exact OwnI.conv tB (ho.out.later hq) Tryd.underlying9
        rw [hoo] at hob hos hby
        have hos' : o.size = a.size := by rw [hos, hlen.out]
        have HOB := Lib.hid hob
        have HBY := Lib.hid hby
        have HOS := Lib.hid hos'
        have oB : bitsB o = true := by rw [bitsB_all hob]; simp; omega
        have xB : xbB a o = true := by simp [xbB, eB, oB]; omega
        have xS : xbS a o = strOfNums (xorL a o a.size) := by simp [xbS, xB]
        have hX : ∀ w, Calls Tryd.prog 22 #[.string a, .string o] w fun e w' => e = .returned (.tuple #[.string (strOfNums (xorL a o a.size)), .bool true]) ∧ Below w.heap.size w w' := fun w => by
          have := XorBits_any a o w (by omega) (by omega)
          rw [xB, xS] at this
          exact this
        have hxb := bits_nums (xorL_mem a o a.size)
        have hxs : (strOfNums (xorL a o a.size)).size = a.size := by rw [strOfNums_size, xorL_len]
        have hxy : ∀ j, j < a.size → byt (strOfNums (xorL a o a.size)) j = xr (byt a j) (byt o j) := fun j hj => by
          rw [byt_nums (xorL_mem a o a.size) (by rw [xorL_len]; exact hj), xorL_at a o hj]
        have hback := xor_back HBA.out hob hos'
        obtain ⟨x, hx⟩ : ∃ x, strOfNums (xorL a o a.size) = x := ⟨_, rfl⟩
        rw [hx] at hX hxb hxs hxy hback
        have HXY := Lib.hid hxy
        have yB : xbB x o = true := by
          have : bitsB x = true := by rw [bitsB_all hxb]; simp; omega
          simp [xbB, this, oB]; omega
        have yS : xbS x o = a := by simp [xbS, yB]; rw [hxs]; exact hback
        have hY : ∀ w, Calls Tryd.prog 22 #[.string x, .string o] w fun e w' => e = .returned (.tuple #[.string a, .bool true]) ∧ Below w.heap.size w w' := fun w => by
          have := XorBits_any x o w (by omega) (by omega)
          rw [yB, yS] at this
          exact this
        have nN : nbB o = true := by simp [nbB, oB]; omega
        have hNO : ∀ w, Calls Tryd.prog 24 #[.string o] w fun e w' => e = .returned (.tuple #[.int .i64 (numL o o.size), .bool true]) ∧ Below w.heap.size w w' := fun w => by
          have := NumberOfBits_any o w (by omega)
          rw [nN, (nbB_true nN).2.2] at this
          exact this
        have no := numL_60 hob (by omega) (Nat.le_refl o.size)
        have hpar := parity_both HBA.out hob hos'
        rw [HN.out] at hpar
        obtain ⟨M, HM⟩ : ∃ M, Hid (numL o o.size = M) := ⟨_, Lib.hid rfl⟩
        rw [HM.out] at hNO no hpar
        have pB : poB N M = true := by simp [poB]; omega
        have hPO : ∀ w, Calls Tryd.prog 40 #[.int .i64 N, .int .i64 M] w fun e w' => e = .returned (.tuple #[.int .i64 (both a o a.size % 2), .bool true]) ∧ w = w' := fun w => by
          have := ParityOf_any N M w (by omega) (by omega)
          rw [pB, show poV N M = both a o a.size % 2 by simp [poV, pB]; exact hpar] at this
          exact this
        have HR6 := Lib.hid (HR5.out.later (Below.mono ho.out.below (Nat.le_refl _)))
        have HB6 := Lib.hid (bw_call HB5.out ho.out.below)
        have HO6 := Lib.hid ho.out
        obtain ⟨g, cap, hv, hg0, hg1, _, _, hgc, hgf⟩ := ho.out.cell
        have HGC : Hid (∀ j, j < a.size → wr.cell? ⟨g, j, none⟩ = some (.int .u8 (byt o j))) := Lib.hid fun j hj => by
          have := hgc j (by rw [hlen.out]; exact hj)
          rw [this, HBY.out j (by rw [hlen.out]; exact hj)]
        have HGL : Hid (g < wr.heap.size) := Lib.hid hg1
        rw [hlen.out] at hv
        clear hob hos hby hoo ho hall hgc hgf hg0 hg1 hxb hxy hback hx hpar HR5 HB5 HBY
        subst hv
        have hcv := HCV.out wr (bw_refl _)
        go_wp2_with fail
        refine (hX _).mono ?_
        rintro e w8 ⟨rfl, hb8⟩
        have D8 := Lib.hid hb8
        clear hcv hb8
        have hcv := HCV.out w8 D8.out
        go_wp2_with fail
        refine (hY _).mono ?_
        rintro e w9 ⟨rfl, hb9⟩
        have D9 := Lib.hid (bw_call D8.out hb9)
        clear hcv hb9 D8
        have hcv := HCV.out w9 D9.out
        go_wp2_with fail
        refine (hNO _).mono ?_
        rintro e w10 ⟨rfl, hb10⟩
        have D10 := Lib.hid (bw_call D9.out hb10)
        have HR7 := Lib.hid (HR6.out.later D10.out)
        clear hcv hb10 D9
        go_wp2_with fail
        refine (hPO _).mono ?_
        rintro e w11 ⟨rfl, rfl⟩
        go_wp2_with fail
        refine (hSum _ _ _ _ HR7.out).mono ?_
        rintro e w12 ⟨rfl, rfl⟩
        have hxl : ((x.size : Int) != (a.size : Int)) = false := by rw [hxs]; simp
        go_wp2
        go_loopw [24, 25, 26, 27] (fun b c ch i wq => ∃ k n : Nat, k ≤ a.size ∧ i = .int .i64 k ∧ b = .int .i64 (both a o k) ∧ c = .int .i64 (oneL a k) ∧ ch = .int .i64 (chg a k) ∧ wq = w10.drewN n) (fun _ _ _ i _ => a.size - (intOf i).toNat)
        case atStart => exact ⟨0, 0, Nat.zero_le _, rfl, rfl, rfl, rfl, rfl⟩
        case round =>
          obtain ⟨k, n, hk, rfl, rfl, rfl, rfl, rfl⟩ := hrel
          by_cases hkt : k < a.size
          · have x0 := byt_bits HBA.out hkt
            have o0 := byt_bits HOB.out (i := k) (by rw [HOS.out]; exact hkt)
            have hkx : k < x.size := by omega
            have X0 := HXY.out k hkt
            rw [byt_at x hkx, byt_at a hkt] at X0
            rw [byt_at a hkt] at x0
            have q1 := (D10.out.cell (p := ⟨g, k, none⟩) HGL.out).trans (HGC.out k hkt)
            have q2 : w10.frozen? ⟨g, k, none⟩ = false := by
              obtain ⟨g', cap', hv, _, hlt, _, _, _, hf⟩ := HO6.out.cell
              simp only [Value.slice.injEq, Option.some.injEq, Addr.mk.injEq, and_true] at hv
              obtain ⟨rfl, -, -⟩ := hv
              exact (D10.out.frozen (p := ⟨g, k, none⟩) hlt).trans (hf k)
            have b0 := both_bd a o k
            have c0 := oneL_bd HBA.out k hk
            have ch0 : chg a k ≤ k := by rw [← chg_len]; exact (runL_len a k).1
            have r1 : (k : Int) < (a.size : Int) := by omega
            rcases x0 with hA | hA <;> rcases o0 with hO | hO <;> rw [hA, hO] at X0 <;> rw [hO] at q1
            · have hX : (x[k].toNat : Int) = 48 := X0
              have HX0 := Lib.hid X0
              clear X0
              have HB1 : Hid (both a o (k + 1) = both a o k + 0) := Lib.hid (by have := HX0.out; simp only [both]; rw [byt_at a hkt, hA, hO]; rfl)
              have HO1 : Hid (oneL a (k + 1) = oneL a k + 0) := Lib.hid (by simp only [oneL]; rw [byt_at a hkt, hA]; rfl)
              go_wp2
              go_quiet (fail)
              cases hn : newRun a k with
              | true =>
                have HC1 : Hid (chg a (k + 1) = chg a k + 1) := Lib.hid (by simp [chg, hn])
                by_cases h0 : k = 0
                · subst h0
                  go_wp2
                  go_quiet (fail)
                  go_wp2
                  go_roundw
                  case rel => exact ⟨0 + 1, _, by omega, by go_num, by rw [HB1.out]; try go_num, by rw [HO1.out]; try go_num, by rw [HC1.out]; try go_num, rfl⟩
                  case measure => simp [intOf]; omega
                · have hz : ((k : Int) == 0) = false := beq_eq_false_iff_ne.2 (by omega)
                  have hk1 : k - 1 < a.size := by omega
                  have hne : ((a[k].toNat : Int) != (a[k - 1].toNat : Int)) = true := by
                    simp only [newRun, h0, decide_false, Bool.false_or, decide_eq_true_eq] at hn
                    rw [byt_at a hk1, byt_at a hkt] at hn
                    exact bne_iff_ne.2 (Ne.symm hn)
                  have hk2 : (k : Int) - 1 = ((k - 1 : Nat) : Int) := by omega
                  obtain ⟨k', HK⟩ : ∃ k', Hid (k - 1 = k') := ⟨_, Lib.hid rfl⟩
                  simp only [HK.out] at hne hk2 hk1
                  rw [hA] at hne
                  clear hn
                  go_wp2
                  go_quiet (fail)
                  go_wp2
                  go_roundw
                  case rel => exact ⟨k + 1, _, by omega, by go_num, by rw [HB1.out]; try go_num, by rw [HO1.out]; try go_num, by rw [HC1.out]; try go_num, rfl⟩
                  case measure => simp [intOf]; omega
              | false =>
                have HC1 : Hid (chg a (k + 1) = chg a k) := Lib.hid (by simp [chg, hn])
                have h0 : k ≠ 0 := fun e => by simp [newRun, e] at hn
                have hz : ((k : Int) == 0) = false := beq_eq_false_iff_ne.2 (by omega)
                have hk1 : k - 1 < a.size := by omega
                have hne : ((a[k].toNat : Int) != (a[k - 1].toNat : Int)) = false := by
                  simp only [newRun, h0, decide_false, Bool.false_or, decide_eq_false_iff_not, Decidable.not_not] at hn
                  rw [byt_at a hk1, byt_at a hkt] at hn
                  rw [hn]; simp
                have hk2 : (k : Int) - 1 = ((k - 1 : Nat) : Int) := by omega
                obtain ⟨k', HK⟩ : ∃ k', Hid (k - 1 = k') := ⟨_, Lib.hid rfl⟩
                simp only [HK.out] at hne hk2 hk1
                rw [hA] at hne
                clear hn
                go_wp2
                go_quiet (fail)
                go_wp2
                go_roundw
                case rel => exact ⟨k + 1, _, by omega, by go_num, by rw [HB1.out]; try go_num, by rw [HO1.out]; try go_num, by rw [HC1.out], rfl⟩
                case measure => simp [intOf]; omega
            · have hX : (x[k].toNat : Int) = 49 := X0
              have HX0 := Lib.hid X0
              clear X0
              have HB1 : Hid (both a o (k + 1) = both a o k + 0) := Lib.hid (by have := HX0.out; simp only [both]; rw [byt_at a hkt, hA, hO]; rfl)
              have HO1 : Hid (oneL a (k + 1) = oneL a k + 0) := Lib.hid (by simp only [oneL]; rw [byt_at a hkt, hA]; rfl)
              go_wp2
              go_quiet (fail)
              cases hn : newRun a k with
              | true =>
                have HC1 : Hid (chg a (k + 1) = chg a k + 1) := Lib.hid (by simp [chg, hn])
                by_cases h0 : k = 0
                · subst h0
                  go_wp2
                  go_quiet (fail)
                  go_wp2
                  go_roundw
                  case rel => exact ⟨0 + 1, _, by omega, by go_num, by rw [HB1.out]; try go_num, by rw [HO1.out]; try go_num, by rw [HC1.out]; try go_num, rfl⟩
                  case measure => simp [intOf]; omega
                · have hz : ((k : Int) == 0) = false := beq_eq_false_iff_ne.2 (by omega)
                  have hk1 : k - 1 < a.size := by omega
                  have hne : ((a[k].toNat : Int) != (a[k - 1].toNat : Int)) = true := by
                    simp only [newRun, h0, decide_false, Bool.false_or, decide_eq_true_eq] at hn
                    rw [byt_at a hk1, byt_at a hkt] at hn
                    exact bne_iff_ne.2 (Ne.symm hn)
                  have hk2 : (k : Int) - 1 = ((k - 1 : Nat) : Int) := by omega
                  obtain ⟨k', HK⟩ : ∃ k', Hid (k - 1 = k') := ⟨_, Lib.hid rfl⟩
                  simp only [HK.out] at hne hk2 hk1
                  rw [hA] at hne
                  clear hn
                  go_wp2
                  go_quiet (fail)
                  go_wp2
                  go_roundw
                  case rel => exact ⟨k + 1, _, by omega, by go_num, by rw [HB1.out]; try go_num, by rw [HO1.out]; try go_num, by rw [HC1.out]; try go_num, rfl⟩
                  case measure => simp [intOf]; omega
              | false =>
                have HC1 : Hid (chg a (k + 1) = chg a k) := Lib.hid (by simp [chg, hn])
                have h0 : k ≠ 0 := fun e => by simp [newRun, e] at hn
                have hz : ((k : Int) == 0) = false := beq_eq_false_iff_ne.2 (by omega)
                have hk1 : k - 1 < a.size := by omega
                have hne : ((a[k].toNat : Int) != (a[k - 1].toNat : Int)) = false := by
                  simp only [newRun, h0, decide_false, Bool.false_or, decide_eq_false_iff_not, Decidable.not_not] at hn
                  rw [byt_at a hk1, byt_at a hkt] at hn
                  rw [hn]; simp
                have hk2 : (k : Int) - 1 = ((k - 1 : Nat) : Int) := by omega
                obtain ⟨k', HK⟩ : ∃ k', Hid (k - 1 = k') := ⟨_, Lib.hid rfl⟩
                simp only [HK.out] at hne hk2 hk1
                rw [hA] at hne
                clear hn
                go_wp2
                go_quiet (fail)
                go_wp2
                go_roundw
                case rel => exact ⟨k + 1, _, by omega, by go_num, by rw [HB1.out]; try go_num, by rw [HO1.out]; try go_num, by rw [HC1.out], rfl⟩
                case measure => simp [intOf]; omega
            · have hX : (x[k].toNat : Int) = 49 := X0
              have HX0 := Lib.hid X0
              clear X0
              have HB1 : Hid (both a o (k + 1) = both a o k + 0) := Lib.hid (by have := HX0.out; simp only [both]; rw [byt_at a hkt, hA, hO]; rfl)
              have HO1 : Hid (oneL a (k + 1) = oneL a k + 1) := Lib.hid (by simp only [oneL]; rw [byt_at a hkt, hA]; rfl)
              go_wp2
              go_quiet (fail)
              cases hn : newRun a k with
              | true =>
                have HC1 : Hid (chg a (k + 1) = chg a k + 1) := Lib.hid (by simp [chg, hn])
                by_cases h0 : k = 0
                · subst h0
                  go_wp2
                  go_quiet (fail)
                  go_wp2
                  go_roundw
                  case rel => exact ⟨0 + 1, _, by omega, by go_num, by rw [HB1.out]; try go_num, by rw [HO1.out]; try go_num, by rw [HC1.out]; try go_num, rfl⟩
                  case measure => simp [intOf]; omega
                · have hz : ((k : Int) == 0) = false := beq_eq_false_iff_ne.2 (by omega)
                  have hk1 : k - 1 < a.size := by omega
                  have hne : ((a[k].toNat : Int) != (a[k - 1].toNat : Int)) = true := by
                    simp only [newRun, h0, decide_false, Bool.false_or, decide_eq_true_eq] at hn
                    rw [byt_at a hk1, byt_at a hkt] at hn
                    exact bne_iff_ne.2 (Ne.symm hn)
                  have hk2 : (k : Int) - 1 = ((k - 1 : Nat) : Int) := by omega
                  obtain ⟨k', HK⟩ : ∃ k', Hid (k - 1 = k') := ⟨_, Lib.hid rfl⟩
                  simp only [HK.out] at hne hk2 hk1
                  rw [hA] at hne
                  clear hn
                  go_wp2
                  go_quiet (fail)
                  go_wp2
                  go_roundw
                  case rel => exact ⟨k + 1, _, by omega, by go_num, by rw [HB1.out]; try go_num, by rw [HO1.out]; try go_num, by rw [HC1.out]; try go_num, rfl⟩
                  case measure => simp [intOf]; omega
              | false =>
                have HC1 : Hid (chg a (k + 1) = chg a k) := Lib.hid (by simp [chg, hn])
                have h0 : k ≠ 0 := fun e => by simp [newRun, e] at hn
                have hz : ((k : Int) == 0) = false := beq_eq_false_iff_ne.2 (by omega)
                have hk1 : k - 1 < a.size := by omega
                have hne : ((a[k].toNat : Int) != (a[k - 1].toNat : Int)) = false := by
                  simp only [newRun, h0, decide_false, Bool.false_or, decide_eq_false_iff_not, Decidable.not_not] at hn
                  rw [byt_at a hk1, byt_at a hkt] at hn
                  rw [hn]; simp
                have hk2 : (k : Int) - 1 = ((k - 1 : Nat) : Int) := by omega
                obtain ⟨k', HK⟩ : ∃ k', Hid (k - 1 = k') := ⟨_, Lib.hid rfl⟩
                simp only [HK.out] at hne hk2 hk1
                rw [hA] at hne
                clear hn
                go_wp2
                go_quiet (fail)
                go_wp2
                go_roundw
                case rel => exact ⟨k + 1, _, by omega, by go_num, by rw [HB1.out]; try go_num, by rw [HO1.out]; try go_num, by rw [HC1.out], rfl⟩
                case measure => simp [intOf]; omega
            · have hX : (x[k].toNat : Int) = 48 := X0
              have HX0 := Lib.hid X0
              clear X0
              have HB1 : Hid (both a o (k + 1) = both a o k + 1) := Lib.hid (by have := HX0.out; simp only [both]; rw [byt_at a hkt, hA, hO]; rfl)
              have HO1 : Hid (oneL a (k + 1) = oneL a k + 1) := Lib.hid (by simp only [oneL]; rw [byt_at a hkt, hA]; rfl)
              go_wp2
              go_quiet (fail)
              cases hn : newRun a k with
              | true =>
                have HC1 : Hid (chg a (k + 1) = chg a k + 1) := Lib.hid (by simp [chg, hn])
                by_cases h0 : k = 0
                · subst h0
                  go_wp2
                  go_quiet (fail)
                  go_wp2
                  go_roundw
                  case rel => exact ⟨0 + 1, _, by omega, by go_num, by rw [HB1.out]; try go_num, by rw [HO1.out]; try go_num, by rw [HC1.out]; try go_num, rfl⟩
                  case measure => simp [intOf]; omega
                · have hz : ((k : Int) == 0) = false := beq_eq_false_iff_ne.2 (by omega)
                  have hk1 : k - 1 < a.size := by omega
                  have hne : ((a[k].toNat : Int) != (a[k - 1].toNat : Int)) = true := by
                    simp only [newRun, h0, decide_false, Bool.false_or, decide_eq_true_eq] at hn
                    rw [byt_at a hk1, byt_at a hkt] at hn
                    exact bne_iff_ne.2 (Ne.symm hn)
                  have hk2 : (k : Int) - 1 = ((k - 1 : Nat) : Int) := by omega
                  obtain ⟨k', HK⟩ : ∃ k', Hid (k - 1 = k') := ⟨_, Lib.hid rfl⟩
                  simp only [HK.out] at hne hk2 hk1
                  rw [hA] at hne
                  clear hn
                  go_wp2
                  go_quiet (fail)
                  go_wp2
                  go_roundw
                  case rel => exact ⟨k + 1, _, by omega, by go_num, by rw [HB1.out]; try go_num, by rw [HO1.out]; try go_num, by rw [HC1.out]; try go_num, rfl⟩
                  case measure => simp [intOf]; omega
              | false =>
                have HC1 : Hid (chg a (k + 1) = chg a k) := Lib.hid (by simp [chg, hn])
                have h0 : k ≠ 0 := fun e => by simp [newRun, e] at hn
                have hz : ((k : Int) == 0) = false := beq_eq_false_iff_ne.2 (by omega)
                have hk1 : k - 1 < a.size := by omega
                have hne : ((a[k].toNat : Int) != (a[k - 1].toNat : Int)) = false := by
                  simp only [newRun, h0, decide_false, Bool.false_or, decide_eq_false_iff_not, Decidable.not_not] at hn
                  rw [byt_at a hk1, byt_at a hkt] at hn
                  rw [hn]; simp
                have hk2 : (k : Int) - 1 = ((k - 1 : Nat) : Int) := by omega
                obtain ⟨k', HK⟩ : ∃ k', Hid (k - 1 = k') := ⟨_, Lib.hid rfl⟩
                simp only [HK.out] at hne hk2 hk1
                rw [hA] at hne
                clear hn
                go_wp2
                go_quiet (fail)
                go_wp2
                go_roundw
                case rel => exact ⟨k + 1, _, by omega, by go_num, by rw [HB1.out]; try go_num, by rw [HO1.out]; try go_num, by rw [HC1.out], rfl⟩
                case measure => simp [intOf]; omega
          · have hke : k = a.size := by omega
            subst hke
            have e1 : ((chg a a.size : Int) == (nr : Int)) = true := by rw [← RL.out, HNR.out]; simp
            have b0 := both_bd a o a.size
            have e2 : (both a o a.size % 2 == (both a o a.size).tmod 2) = true := by
              rw [Int.tmod_eq_emod_of_nonneg b0.1]; simp
            go_wp2
            go_ret
            exact ⟨rfl, bw_drewN (bw_call HB6.out D10.out) _⟩
end Go.Proofs.YtpppdlgmhedaeaaDoor

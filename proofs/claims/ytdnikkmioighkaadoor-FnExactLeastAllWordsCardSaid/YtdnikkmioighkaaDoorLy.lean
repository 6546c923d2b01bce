/-
  Contract of the reference's LeastAllWords. No condition.
-/
import Derived.Test.YtdnikkmioighkaaDoorLx
import Derived.Laws.BytesArg
import Derived.Test.YtdnikkmioighkaaDoorBits
namespace Go.Proofs.YtdnikkmioighkaaDoor
open Go.RowKit
set_option linter.unusedVariables false

theorem tS : SliceV Tryd.prog 34 9 (.string ⟨#[]⟩) 16 := ⟨Tryd.underlying34, info_parts (by kernel_rfl)⟩
/-- A word as a value. -/
def encW (l : List UInt8) : Value := .string (strB l)
theorem encW_one (l : List UInt8) : (encW l).oneCell' = true := rfl
theorem conv1 (w : World) (x : Int) (hx : x = 48 ∨ x = 49) : (convert 25 9 (.slice (some ⟨w.heap.size, 0, none⟩) 1 1)).run Tryd.prog (w.alloc (.cells #[.int .u8 x] 5)) = .ok (.string (strB [UInt8.ofNat x.toNat])) (w.alloc (.cells #[.int .u8 x] 5)) := by
  have h := run_convert_bytes_arg (P := Tryd.prog) (w.alloc (.cells #[.int .u8 x] 5)) 25 5 Tryd.underlying25 Tryd.underlying5 w.heap.size 0 1 1 [x] rfl (fun i hi => by
    have hi0 : i = 0 := by simpa using hi
    subst hi0
    rw [cell_of_row _ _ _ _ _ _ (heap_alloc_new w _)]; rfl) 9 Tryd.underlying9
  rw [h]
  rcases hx with rfl | rfl <;> rfl
/-- A slice's length. -/
def lenV : Value → Nat
  | .slice _ n _ => n
  | _ => 0
theorem spN_mem (size : Nat) : ∀ n, ∀ x ∈ spN size n, x.length = size
  | 0, x, h => by simp [spN] at h
  | n + 1, x, h => by
    rw [spN] at h
    split at h
    · rcases List.mem_append.1 h with h | h
      · exact spN_mem size n x h
      · rw [List.mem_singleton] at h; subst h; exact dgK_len ..
    · exact spN_mem size n x h
theorem spS_mem (W : Nat) : ∀ z, ∀ x ∈ spS W z, x.length ≤ z
  | 0, x, h => by simp [spS] at h
  | z + 1, x, h => by
    rw [spS] at h
    split at h
    · rcases List.mem_append.1 h with h | h
      · have := spS_mem W z x h; omega
      · have := spN_mem _ _ x h; omega
    · have := spS_mem W z x h; omega
set_option maxHeartbeats 4000000 in
set_option maxRecDepth 100000 in
theorem sLeastAllWords_any (wd : Int) (w : World) :
    Calls Tryd.prog 5 #[.int .i64 wd] w fun e w' => e = .returned (.tuple #[.string (lwS wd), .bool (lwB wd)]) ∧ Below w.heap.size w w' := by
  cases hB : inR wd 1 6 with
  | false =>
    have e : lwB wd = false := hB
    have es : lwS wd = ⟨#[]⟩ := by unfold lwS; rw [e]; rfl
    rw [e, es]; clear e es
    go_enter Tryd.func5, Tryd.ntmps5
    go_wp2_with (go_at_call 11; refine (l00In_of hB _).mono ?_; rintro e w' ⟨rfl, rfl⟩)
    go_ret2
    exact ⟨rfl, bw_refl _⟩
  | true =>
    have e : lwB wd = true := hB
    have b1 := inR_true hB
    obtain ⟨W, rfl⟩ := Int.eq_ofNat_of_zero_le (show 0 ≤ wd by omega)
    have es : lwS W = strB (LW W) := by unfold lwS; rw [if_pos e, Int.toNat_natCast]
    have hW1 : 1 ≤ W := by omega
    have hW6 : W ≤ 6 := by omega
    obtain ⟨hsel, hs64⟩ := sel_same hW1 hW6
    have HSel := Lib.hid hsel
    rw [e, es]; clear e es hsel
    obtain ⟨R, HR⟩ : ∃ R, Hid (strB (LW W) = R) := ⟨_, Lib.hid rfl⟩
    rw [HR.out]
    go_enter Tryd.func5, Tryd.ntmps5
    go_wp2_with (go_at_call 11; refine (l00In_of hB _).mono ?_; rintro e w' ⟨rfl, rfl⟩)
    go_loopw [4, 5] (fun v i wr => ∃ z : Nat, z ≤ W ∧ i = .int .i64 (z + 1 : Nat) ∧ Hid (OwnV encW w.heap.size 9 w wr v (spS W z))) (fun _ i _ => W + 1 - (intOf i).toNat)
    case atStart => exact ⟨0, Nat.zero_le _, rfl, Lib.hid (OwnV.made (bw_refl _) (Nat.le_refl _))⟩
    case round =>
      obtain ⟨z, hz, rfl, ho⟩ := hrel
      by_cases hlz : z < W
      · obtain ⟨Z, HZ⟩ : ∃ Z, Hid (z + 1 = Z) := ⟨_, Lib.hid rfl⟩
        have hZ := HZ.out
        have hZ1 : 1 ≤ Z := by omega
        have hZ6 : Z ≤ 6 := by omega
        have HSp : Hid (spS W Z = if W % Z = 0 then spS W z ++ spN Z (2 ^ Z) else spS W z) := Lib.hid (by rw [← hZ]; rfl)
        have hlen0 := spS_len W z (by omega)
        have hZW : Z ≤ W := by omega
        have hp : 2 ^ Z ≤ 64 := Nat.le_trans (Nat.pow_le_pow_right (by decide) hZ6) (by decide)
        have hsl : wrap64 (2 ^ Z) = ((2 ^ Z : Nat) : Int) := by
          have e : (2 : Int) ^ Z = ((2 ^ Z : Nat) : Int) := by rw [Int.natCast_pow]; rfl
          rw [e]
          generalize 2 ^ Z = q at hp ⊢
          exact IntWalk.wrap64_in _ ⟨by omega, by omega⟩
        have hmd : (W : Int) % (Z : Int) = ((W % Z : Nat) : Int) := by rw [Int.natCast_emod]
        have hZ0 : ¬ (Z : Int) = 0 := by omega
        have u1 : IntKind.u64.wrap (Z : Int) = Z := IntWalk.u64_in _ (by omega)
        obtain ⟨P, HP⟩ : ∃ P, Hid (2 ^ Z = P) := ⟨_, Lib.hid rfl⟩
        rw [HP.out] at hp hsl HSp
        rw [HZ.out]
        clear hZ
        go_wp2
        by_cases hd : W % Z = 0
        · have hdd : (W : Int) % (Z : Int) = 0 := by rw [hmd, hd]; rfl
          rw [if_pos hd] at HSp
          clear hd hmd
          go_loopw [4, 6] (fun v i wr => ∃ n : Nat, n ≤ P ∧ i = .int .i64 n ∧ Hid (OwnV encW w.heap.size 9 w wr v (spS W z ++ spN Z n))) (fun _ i _ => P - (intOf i).toNat)
          case atStart => exact ⟨0, Nat.zero_le _, rfl, Lib.hid (by rw [spN, List.append_nil]; exact ho.out)⟩
          case round =>
            obtain ⟨n, hn, rfl, ho2⟩ := hrel
            by_cases hln : n < P
            · obtain ⟨wo, rfl⟩ : ∃ wo : World, wo = wr := ⟨_, rfl⟩
              have hSN : Hid (spN Z (n + 1) = if lynB (dgK n Z Z) = true then spN Z n ++ [dgK n Z Z] else spN Z n) := Lib.hid rfl
              have hlen1 := spN_len Z n
              have HL : Hid ((spS W z ++ spN Z n).length < 1000000000000) := Lib.hid (by rw [List.length_append]; omega)
              go_wp2
              go_loopw [7, 8] (fun sv kv wr => ∃ (j : Nat) (y : Int), j ≤ Z ∧ -1 ≤ y ∧ y ≤ 5 ∧ kv = .int .i64 y ∧ sv = .string (strB (dgK n Z j)) ∧ Hid (y = (Z : Int) - 1 - j) ∧ Hid (Below wo.heap.size wo wr)) (fun _ kv _ => (intOf kv + 1).toNat)
              case atStart => exact ⟨0, _, Nat.zero_le _, by omega, by omega, rfl, rfl, Lib.hid (by simp), Lib.hid (bw_refl _)⟩
              case round =>
                obtain ⟨j, y, hj, hy0, hy5, rfl, rfl, hy, hbl⟩ := hrel
                by_cases hyz : 0 ≤ y
                · obtain ⟨k, rfl⟩ := Int.eq_ofNat_of_zero_le hyz
                  have hjk : Z - 1 - j = k := by have := hy.out; omega
                  have hjZ : j < Z := by have := hy.out; omega
                  have hnext : Hid (strB (dgK n Z (j + 1)) = strB (dgK n Z j) ++ strB [UInt8.ofNat (48 + n / 2 ^ k % 2)]) := Lib.hid (by rw [strB_append, dgK, hjk])
                  have hdv : (n : Int) / 2 ^ k = ((n / 2 ^ k : Nat) : Int) := by rw [Int.natCast_ediv, Int.natCast_pow]; rfl
                  have hq : n / 2 ^ k ≤ n := Nat.div_le_self _ _
                  obtain ⟨q, HQ⟩ : ∃ q, Hid (n / 2 ^ k = q) := ⟨_, Lib.hid rfl⟩
                  rw [HQ.out] at hdv hq hnext
                  have hand : bits .and .i64 (q : Int) 1 = ((q % 2 : Nat) : Int) := by rw [show (1 : Int) = ((1 : Nat) : Int) from rfl, i64_and_nat q 1 (by omega) (by decide), Nat.and_one_is_mod]
                  have hd2 : q % 2 < 2 := Nat.mod_lt _ (by decide)
                  obtain ⟨d, HD⟩ : ∃ d, Hid (q % 2 = d) := ⟨_, Lib.hid rfl⟩
                  rw [HD.out] at hand hd2 hnext
                  have hu : IntKind.u8.wrap (48 + (d : Int)) = ((48 + d : Nat) : Int) := by rw [IntWalk.u8_in _ (by omega)]; omega
                  have hcv := conv1 wr ((48 + d : Nat) : Int) (by omega)
                  rw [Int.toNat_natCast] at hcv
                  obtain ⟨x, HX⟩ : ∃ x, Hid (48 + d = x) := ⟨_, Lib.hid rfl⟩
                  rw [HX.out] at hu hcv hnext
                  have u2 : IntKind.u64.wrap (k : Int) = k := IntWalk.u64_in _ (by omega)
                  have hs1 : (strB (dgK n Z j)).size = j := by rw [strB_size, dgK_len]
                  have hs2 : (strB [UInt8.ofNat x]).size = 1 := strB_size _
                  clear hjk
                  go_wp2
                  go_roundw
                  case rel => exact ⟨j + 1, _, by omega, by omega, by omega, rfl, by rw [hnext.out], Lib.hid (by have := hy.out; omega), Lib.hid (bw_alloc hbl.out _)⟩
                  case measure => simp [intOf] <;> omega
                · have hje : j = Z := by have := hy.out; omega
                  subst hje
                  have hly := fun w1 => l02Lyndon_any (dgK n j j) w1 (by rw [dgK_len]; omega) (by rw [dgK_len]; omega)
                  have HO3 := Lib.hid (ho2.out.later hbl.out)
                  cases hlb : lynB (dgK n j j) with
                  | true =>
                    rw [hlb] at hly
                    rw [hlb, if_pos rfl] at hSN
                    clear hlb
                    go_wp2_with (first | (go_at_call 12; refine (hly _).mono ?_; rintro e w' ⟨rfl, rfl⟩) | (at_builtin; refine wpAppV1 encW_one tS rfl rfl _ _ rfl rfl HO3.out rfl (by decide) HL.out ((spS W z).length + (spN j n).length + 1) (by rw [List.length_append]) ?_; intro g7 cap7 w7 hown7))
                    go_roundw
                    case rel => exact ⟨n + 1, by omega, by go_num, Lib.hid (by rw [hSN.out, ← List.append_assoc]; exact hown7)⟩
                    case measure => simp [intOf]; omega
                  | false =>
                    rw [hlb] at hly
                    rw [hlb, if_neg (by decide)] at hSN
                    clear hlb
                    go_wp2_with (go_at_call 12; refine (hly _).mono ?_; rintro e w' ⟨rfl, rfl⟩)
                    go_roundw
                    case rel => exact ⟨n + 1, by omega, by go_num, Lib.hid (by rw [hSN.out]; exact HO3.out)⟩
                    case measure => simp [intOf]; omega
            · have hne : n = P := by omega
              subst hne
              go_wp2
              go_roundw
              case rel => exact ⟨Z, hZW, by go_num, Lib.hid (by rw [HSp.out]; exact ho2.out)⟩
              case measure => have := HZ.out; simp [intOf]; omega
        · have hdd : ((W : Int) % (Z : Int) == 0) = false := beq_eq_false_iff_ne.2 (by rw [hmd]; omega)
          rw [if_neg hd] at HSp
          clear hd hmd
          go_loopw [4, 6] (fun v i wr => i = .int .i64 0 ∧ Hid (OwnV encW w.heap.size 9 w wr v (spS W z))) (fun _ _ _ => 0)
          case atStart => exact ⟨rfl, ho⟩
          case round =>
            obtain ⟨rfl, ho2⟩ := hrel
            go_wp2
            go_roundw
            case rel => exact ⟨Z, hZW, by go_num, Lib.hid (by rw [HSp.out]; exact ho2.out)⟩
            case measure => have := HZ.out; simp [intOf]; omega
      · have hze : z = W := by omega
        subst hze
        have r1 : ¬ ((z + 1 : Nat) : Int) ≤ (z : Int) := by omega
        obtain ⟨l0, hl0⟩ : ∃ l, spS z z = l := ⟨_, rfl⟩
        have HSt : Hid (selO 64 l0 [] = LW z) := Lib.hid (by rw [← hl0]; exact HSel.out)
        rw [hl0] at ho hs64
        obtain ⟨g0, cap0, rfl, _⟩ := ho.out.cell []
        have HMem : Hid (∀ x ∈ l0, x.length ≤ 6) := Lib.hid (by rw [← hl0]; exact fun x hx => Nat.le_trans (spS_mem z z x hx) hW6)
        clear hl0
        go_wp2
        go_loopw [4, 9] (fun v ov wr => ∃ (f : Nat) (l : List (List UInt8)) (out : List UInt8), Hid (l.length ≤ f) ∧ l.length ≤ 64 ∧ Hid (out.length + 6 * l.length ≤ 400) ∧ Hid (selO f l out = LW z) ∧ ov = .string (strB out) ∧ Hid (OwnV encW w.heap.size 9 w wr v l) ∧ Hid (∀ x ∈ l, x.length ≤ 6)) (fun v _ _ => lenV v)
        case atStart => exact ⟨64, l0, [], Lib.hid hs64, hs64, Lib.hid (by simp; omega), HSt, rfl, ho, HMem⟩
        case round =>
          obtain ⟨f, l, out, hlf, hl64, hob, hsel, rfl, hol, hmem⟩ := hrel
          obtain ⟨g, cap, rfl, hg0, hg1, hlc, _, hcell⟩ := hol.out.cell []
          have HCell := Lib.hid hcell
          clear hcell
          by_cases hnil : l = []
          · subst hnil
            have hout : out = LW z := by
              have := hsel.out
              cases f with
              | zero => exact this
              | succ f => rw [selO, if_pos rfl] at this; exact this
            have hR : strB out = R := by rw [hout]; exact HR.out
            have HB := Lib.hid hol.out.below
            have HRr := Lib.hid hR
            clear hout hR
            go_wp2
            go_ret2
            rw [← HRr.out]
            exact ⟨rfl, HB.out⟩
          · have hl0 : 0 < l.length := List.length_pos_iff.2 hnil
            obtain ⟨wo, rfl⟩ : ∃ wo : World, wo = wr := ⟨_, rfl⟩
            go_wp2
            go_loopw [10, 11] (fun lv iv wr => ∃ k n : Nat, k + 1 ≤ l.length ∧ iv = .int .i64 (k + 1 : Nat) ∧ lv = .int .i64 (mI l k : Nat) ∧ wr = wo.drewN n) (fun _ iv _ => l.length - (intOf iv).toNat)
            case atStart => exact ⟨0, 0, by omega, rfl, rfl, rfl⟩
            case round =>
              obtain ⟨k, n, hk, rfl, rfl, rfl⟩ := hrel
              have hmk := mI_le l k
              by_cases hkl : k + 1 < l.length
              · have q1 := HCell.out (k + 1) hkl
                have q2 := HCell.out (mI l k) (by omega)
                have HN : Hid (mI l (k + 1) = if Op.bytesLess (l.getD (k + 1) []) (l.getD (mI l k) []) = true then k + 1 else mI l k) := Lib.hid rfl
                obtain ⟨x, HX⟩ : ∃ x, Hid (l.getD (k + 1) [] = x) := ⟨_, Lib.hid rfl⟩
                obtain ⟨y, HY⟩ : ∃ y, Hid (l.getD (mI l k) [] = y) := ⟨_, Lib.hid rfl⟩
                rw [HX.out] at q1 HN
                rw [HY.out] at q2 HN
                have q1 : wo.cell? ⟨g, k + 1, none⟩ = some (.string (strB x)) := q1
                have q2 : wo.cell? ⟨g, mI l k, none⟩ = some (.string (strB y)) := q2
                have hcmp : Op.bytesLess (strB x).toList (strB y).toList = Op.bytesLess x y := by rw [strB_toList, strB_toList]
                obtain ⟨m0, HM0⟩ : ∃ m0, Hid (mI l k = m0) := ⟨_, Lib.hid rfl⟩
                obtain ⟨q, HQ⟩ : ∃ q, Hid (k + 1 = q) := ⟨_, Lib.hid rfl⟩
                simp only [HM0.out, HQ.out] at q1 q2 HN hmk hkl hk ⊢
                have hq := HQ.out
                have hm0l : m0 < l.length := by omega
                have hqi : (q : Int) < (l.length : Int) := by omega
                have hmi : (m0 : Int) < (l.length : Int) := by omega
                clear hq
                obtain ⟨bb, hbb⟩ : ∃ bb, Op.bytesLess x y = bb := ⟨_, rfl⟩
                rw [hbb] at hcmp HN
                clear hbb
                go_wp2
                go_quiet (fail)
                cases bb with
                | true =>
                  go_wp2
                  go_roundw
                  case rel => exact ⟨q, _, by omega, by go_num, by rw [HN.out]; rfl, rfl⟩
                  case measure => simp [intOf]; omega
                | false =>
                  go_wp2
                  go_roundw
                  case rel => exact ⟨q, _, by omega, by go_num, by rw [HN.out]; rfl, rfl⟩
                  case measure => simp [intOf]; omega
              · have hke : k = l.length - 1 := by omega
                subst hke
                have hm0 := mI_le l (l.length - 1)
                have hsel2 := hsel.out
                cases f with
                | zero => have := hlf.out; omega
                | succ f =>
                  rw [selO, if_neg hnil] at hsel2
                  have hl1 : lst1 l = l.take (mI l (l.length - 1)) ++ l.drop (mI l (l.length - 1) + 1) := rfl
                  have hp1 : pick1 l = l.getD (mI l (l.length - 1)) [] := rfl
                  have hl2 := lst1_len hnil
                  have q1 := HCell.out (mI l (l.length - 1)) (by omega)
                  have q1 : wo.cell? ⟨g, mI l (l.length - 1), none⟩ = some (.string (strB (pick1 l))) := q1
                  have hpm : (pick1 l).length ≤ 6 := hmem.out _ (by rw [hp1, List.getD_eq_getElem?_getD, List.getElem?_eq_getElem (by omega)]; exact List.getElem_mem _)
                  have HMem2 : Hid (∀ x ∈ lst1 l, x.length ≤ 6) := Lib.hid fun x hx => by
                    rw [hl1] at hx
                    rcases List.mem_append.1 hx with h | h
                    · exact hmem.out x (List.mem_of_mem_take h)
                    · exact hmem.out x (List.mem_of_mem_drop h)
                  have HOb2 : Hid ((out ++ pick1 l).length + 6 * (lst1 l).length ≤ 400) := Lib.hid (by have := hob.out; rw [List.length_append]; omega)
                  have hs1 : (strB out).size = out.length := strB_size _
                  have hs2 : (strB (pick1 l)).size = (pick1 l).length := strB_size _
                  have hol2 : out.length ≤ 400 := by have := hob.out; omega
                  have HAp : Hid (strB out ++ strB (pick1 l) = strB (out ++ pick1 l)) := Lib.hid (strB_append _ _)
                  have HSel2 : Hid (selO f (lst1 l) (out ++ pick1 l) = LW z) := Lib.hid hsel2
                  have HL1 := Lib.hid hl1
                  have HLl : Hid ((lst1 l).length ≤ f) := Lib.hid (by have := hlf.out; omega)
                  obtain ⟨m, HM⟩ : ∃ m, Hid (mI l (l.length - 1) = m) := ⟨_, Lib.hid rfl⟩
                  rw [HM.out] at q1 hm0 HL1 ⊢
                  have hml : m < l.length := by omega
                  have hmi : (m : Int) < (l.length : Int) := by omega
                  have HTk : Hid ((l.take m).length = m) := Lib.hid (by rw [List.length_take]; omega)
                  have HDr : Hid (∀ m1, (l.drop m1).length = l.length - m1) := Lib.hid (fun m1 => by rw [List.length_drop])
                  have r1 : ¬ ((l.length - 1 + 1 : Nat) : Int) < (l.length : Int) := by omega
                  obtain ⟨m1, HM1⟩ : ∃ m1, Hid (m + 1 = m1) := ⟨_, Lib.hid rfl⟩
                  have e1 : (m : Int) + 1 = (m1 : Int) := by have := HM1.out; omega
                  have hmc : m ≤ cap := by omega
                  have hmc1 : m1 ≤ cap := by have := HM1.out; omega
                  have hml1 : m1 ≤ l.length := by have := HM1.out; omega
                  clear hl1 hp1 hsel2 hkl hnil
                  have HTc : Hid (∀ w', Below wo.heap.size wo w' → ∀ j, j < (l.take m).length → w'.cell? ⟨g, 0 + j, none⟩ = some (encW ((l.take m).getD j []))) := Lib.hid fun w' hb j hj => by
                    have hjm : j < m := by rw [HTk.out] at hj; exact hj
                    rw [Nat.zero_add, hb.cell (p := ⟨g, j, none⟩) hg1, HCell.out j (by omega)]
                    simp only [List.getD, List.getElem?_take, if_pos hjm]
                  have HDc : Hid (∀ w', Below wo.heap.size wo w' → ∀ j, j < (l.drop m1).length → w'.cell? ⟨g, m1 + j, none⟩ = some (encW ((l.drop m1).getD j []))) := Lib.hid fun w' hb j hj => by
                    have hjm : j < l.length - m1 := by rw [HDr.out] at hj; exact hj
                    rw [hb.cell (p := ⟨g, m1 + j, none⟩) hg1, HCell.out (m1 + j) (by omega)]
                    simp only [List.getD, List.getElem?_drop]
                  have hB1 : Hid (w.heap.size ≤ wo.heap.size) := Lib.hid hol.out.2.2.1
                  have hB2 := Lib.hid hol.out.below
                  have HL0 : Hid (0 + m < 1000000000000) := Lib.hid (by omega)
                  have HL9 : Hid ((lst1 l).length = l.length - 1) := Lib.hid (by omega)
                  by_cases hcap : cap = m1
                  · have hlm : l.length = m1 := by omega
                    have HDe : Hid (l.drop m1 = []) := Lib.hid (List.drop_eq_nil_of_le (by omega))
                    go_wp2_with (first | (at_builtin; refine wpAppVs encW_one tS rfl rfl _ _ rfl (xs := []) (ys := l.take m) (off := 0) rfl (OwnV.made (bw_drewN (bw_refl wo) n) (Nat.le_refl _)) HTk.out.symm rfl [] (HTc.out _ (bw_alloc (bw_drewN (bw_refl wo) n) _)) (by decide) (by rw [HTk.out]; simp; omega) m (by rw [HTk.out]; simp) ?_; intro g5 cap5 w5 hown5) | (at_builtin; refine wpAppVs encW_one tS rfl rfl _ _ rfl (ys := []) (g := g) (off := 0) rfl hown5 rfl rfl [] (fun j hj => by simp at hj) (by decide) (by rw [List.nil_append, HTk.out]; simp; omega) m (by rw [List.nil_append, HTk.out]; rfl) ?_; intro g6 cap6 w6 hown6))
                    have HO6 : Hid (OwnV encW w.heap.size 9 w w6 (.slice (some ⟨g6, 0, none⟩) m cap6) (lst1 l)) := Lib.hid (by
                      rw [HL1.out, HM1.out, HDe.out]; exact hown6.rebase hB1.out (hB2.out.trans (hown6.below.mono hB1.out)))
                    clear hown5 hown6
                    go_roundw
                    case rel => exact ⟨f, lst1 l, out ++ pick1 l, HLl, by have := HL9.out; omega, HOb2, HSel2, by rw [HAp.out], HO6, HMem2⟩
                    case measure => have := HM1.out; simp [lenV]; omega
                  · have hcap2 : m1 < cap := by omega
                    go_wp2_with (first | (at_builtin; refine wpAppVs encW_one tS rfl rfl _ _ rfl (xs := []) (ys := l.take m) (off := 0) rfl (OwnV.made (bw_drewN (bw_refl wo) n) (Nat.le_refl _)) HTk.out.symm rfl [] (HTc.out _ (bw_alloc (bw_drewN (bw_refl wo) n) _)) (by decide) (by rw [HTk.out]; simp; omega) m (by rw [HTk.out]; simp) ?_; intro g5 cap5 w5 hown5) | (at_builtin; refine wpAppVs encW_one tS rfl rfl _ _ rfl (ys := l.drop m1) (g := g) (off := m1) rfl hown5 (HDr.out m1).symm rfl [] (HDc.out _ hown5.below) (by decide) (by rw [List.nil_append, HTk.out, HDr.out]; omega) (l.length - 1) (by rw [List.nil_append, HTk.out, HDr.out]; have := HM1.out; omega) ?_; intro g6 cap6 w6 hown6))
                    have HO6 : Hid (OwnV encW w.heap.size 9 w w6 (.slice (some ⟨g6, 0, none⟩) (l.length - 1) cap6) (lst1 l)) := Lib.hid (by
                      rw [HL1.out, HM1.out]; exact hown6.rebase hB1.out (hB2.out.trans (hown6.below.mono hB1.out)))
                    clear hown5 hown6
                    go_roundw
                    case rel => exact ⟨f, lst1 l, out ++ pick1 l, HLl, by have := HL9.out; omega, HOb2, HSel2, by rw [HAp.out], HO6, HMem2⟩
                    case measure => simp [lenV]; omega
end Go.Proofs.YtdnikkmioighkaaDoor

/-
  Contract of the program's LeastAllWords. No condition.
-/
import Derived.Test.YtdnikkmioighkaaDoorM25
import Derived.Test.YtdnikkmioighkaaDoorBd
import Derived.Test.YtdnikkmioighkaaDoorC1
namespace Go.Proofs.YtdnikkmioighkaaDoor
open Go.RowKit
set_option linter.unusedVariables false

theorem trim_len (l : List UInt8) (c : UInt8) : (Lib.trimRightB l c).length ≤ l.length := by
  unfold Lib.trimRightB
  rw [List.length_reverse]
  exact Nat.le_trans (List.dropWhile_sublist _).length_le (by simp)
def strB (l : List UInt8) : ByteArray := ⟨l.toArray⟩
theorem strB_size (l : List UInt8) : (strB l).size = l.length := by
  show l.toArray.size = l.length
  simp
theorem strB_list (l : List UInt8) : (strB l).data.toList = l := by simp [strB]
theorem strB_toList (l : List UInt8) : (strB l).toList = l := by
  rw [Lib.toList_data, strB_list]
theorem strB_append (a b : List UInt8) : strB a ++ strB b = strB (a ++ b) := by
  apply ByteArray.ext
  apply Array.toList_inj.1
  rw [ByteArray.data_append, Array.toList_append, strB_list, strB_list, strB_list]
theorem strB_take (l : List UInt8) (n : Nat) : (strB l).extract 0 n = strB (l.take n) := by
  apply ByteArray.ext
  apply Array.toList_inj.1
  rw [ByteArray.data_extract, Array.toList_extract, strB_list, strB_list]
  simp [List.extract]
/-- How many words are still to come. -/
def mW (W : Nat) : Value → Nat
  | .string s => 24 - ixW W s.data.toList
  | _ => 0
def lwB (wd : Int) : Bool := inR wd 1 6
def lwS (wd : Int) : ByteArray := if lwB wd = true then strB (LW wd.toNat) else ⟨#[]⟩
theorem new_builder (w : World) (b : Nat) (hb : w.heap.size = b) : Lib.IsBuilder 38 5 b b [] (w.alloc (.cells #[.pointer none, .slice none 0 0] 38)) := by
  subst hb
  exact .inl ⟨Nat.le_refl _, _, heap_alloc_new w _, World.ownsRow_nil .., by simp [Value.ownBlock]⟩
theorem bd_later {T e B b : Nat} {bs : List Value} {w w' : World} (h : Lib.IsBuilder T e B b bs w) (hb : Below w.heap.size w w') : Lib.IsBuilder T e B b bs w' := by
  have hk : ∀ p, Lib.BuilderAt T e B b p bs w → Lib.BuilderAt T e B b p bs w' := fun p ⟨h1, v, h2, h3, h4⟩ =>
    ⟨h1, v, (hb.block b (Array.getElem?_eq_some_iff.1 h2).1).trans h2, h3.kept (row := none) ⟨hb.os, hb.tape, hb.output, hb.size, fun i hi _ => hb.block i hi⟩ (by cases hv : v.ownBlock <;> simp), h4⟩
  exact h.imp (hk _) (hk _)
set_option maxHeartbeats 2000000 in
set_option maxRecDepth 100000 in
theorem LeastAllWords_any (wd : Int) (w : World) :
    Calls Tryd.prog 6 #[.int .i64 wd] w fun e w' => e = .returned (.tuple #[.string (lwS wd), .bool (lwB wd)]) ∧ Below w.heap.size w w' := by
  cases hB : inR wd 1 6 with
  | false =>
    have e : lwB wd = false := hB
    have es : lwS wd = ⟨#[]⟩ := by unfold lwS; rw [e]; rfl
    rw [e, es]; clear e es
    go_enter Tryd.func6, Tryd.ntmps6
    go_wp2_with (go_at_call 13; refine (inRange_of hB _).mono ?_; rintro e w' ⟨rfl, rfl⟩)
    go_ret2
    exact ⟨rfl, bw_refl _⟩
  | true =>
    have e : lwB wd = true := hB
    have b1 := inR_true hB
    obtain ⟨W, rfl⟩ := Int.eq_ofNat_of_zero_le (show 0 ≤ wd by omega)
    have es : lwS W = strB (LW W) := by unfold lwS; rw [if_pos e, Int.toNat_natCast]
    have hW1 : 1 ≤ W := by omega
    have hW6 : W ≤ 6 := by omega
    rw [e, es]; clear e es
    obtain ⟨b, HBb⟩ : ∃ b, Hid (w.heap.size = b) := ⟨_, Lib.hid rfl⟩
    have HN := Lib.hid (new_builder w b HBb.out)
    have HB0 : Hid (Below b w (w.alloc (.cells #[.pointer none, .slice none 0 0] 38))) := Lib.hid (by rw [← HBb.out]; exact bw_alloc (bw_refl _) _)
    have HS0 : Hid (b ≤ (w.alloc (.cells #[.pointer none, .slice none 0 0] 38)).heap.size) := Lib.hid (by rw [← HBb.out]; simp)
    go_enter Tryd.func6, Tryd.ntmps6
    go_wp2_with (go_at_call 13; refine (inRange_of hB _).mono ?_; rintro e w' ⟨rfl, rfl⟩)
    rw [HBb.out]
    go_loopw [5] (fun v wr => ∃ k : Nat, k ≤ 24 ∧ v = .string (strB (wAt W k)) ∧ Hid (wAt W k ≠ []) ∧ Hid (Lib.IsBuilder 38 5 b b (Lib.byteCells (oAt W k)) wr) ∧ Hid (Below b w wr) ∧ Hid (b ≤ wr.heap.size)) (fun v _ => mW W v)
    case atStart => exact ⟨0, by omega, rfl, Lib.hid (by simp [wAt]), HN, HB0, HS0⟩
    case round =>
      obtain ⟨k, hk, rfl, hr, hbd, hbl, hsz⟩ := hrel
      obtain ⟨hk24, hlw, hix, ho64, hend⟩ := okW_at hW1 hW6 hr.out hk
      have hmu : mW W (.string (strB (wAt W k))) = 24 - k := by simp only [mW, strB_list, hix]
      have hmu2 : wAt W (k + 1) ≠ [] → k + 1 ≤ 24 → mW W (.string (strB (wAt W (k + 1)))) = 24 - (k + 1) := fun h1 h2 => by
        obtain ⟨_, _, hix2, _, _⟩ := okW_at hW1 hW6 h1 h2
        simp only [mW, strB_list, hix2]
      have HWk : Hid (wAt W (k + 1) = if wAt W k = [] ∨ nxW W (wAt W k) = [] then [] else (nxW W (wAt W k)).take ((nxW W (wAt W k)).length - 1) ++ [49]) := Lib.hid rfl
      have HOk : Hid (oAt W (k + 1) = if wAt W k ≠ [] ∧ W % (wAt W k).length = 0 then oAt W k ++ wAt W k else oAt W k) := Lib.hid rfl
      have HNx : Hid (nxW W (wAt W k) = Lib.trimRightB ((Lib.repeatL (wAt W k) (W / (wAt W k).length + 1)).take W) 49) := Lib.hid rfl
      obtain ⟨r, HR⟩ : ∃ r, Hid (wAt W k = r) := ⟨_, Lib.hid rfl⟩
      simp only [HR.out] at hr hlw hix hend hmu HWk HOk HNx ⊢
      have hr0 : 0 < r.length := List.length_pos_iff.2 hr.out
      have hsz1 := strB_size r
      have hem : (strB r).toList.isEmpty = false := by rw [strB_toList]; simpa using hr.out
      have hne : (strB r).toList ≠ [] := by rw [strB_toList]; exact hr.out
      obtain ⟨s, HSs⟩ : ∃ s, Hid (strB r = s) := ⟨_, Lib.hid rfl⟩
      obtain ⟨L, HL⟩ : ∃ L, Hid (r.length = L) := ⟨_, Lib.hid rfl⟩
      simp only [HSs.out, HL.out] at hsz1 hem hne hr0 hlw hmu HWk HOk HNx ⊢
      have hsl : s.data.toList = r := by rw [← HSs.out, strB_list]
      have hdv : (W : Int) / (L : Int) + 1 = ((W / L + 1 : Nat) : Int) := by rw [Int.natCast_add, Int.natCast_ediv]; rfl
      have hmd : (W : Int) % (L : Int) = ((W % L : Nat) : Int) := by rw [Int.natCast_emod]
      have hdle : W / L ≤ W := Nat.div_le_self _ _
      have hLn0 : ¬ (L : Int) = 0 := by omega
      have hmul : L * (W / L + 1) ≤ 48 := by
        have := Nat.mul_div_le W L
        rw [Nat.mul_add]; omega
      have hge : W ≤ L * (W / L + 1) := by
        have h1 := Nat.div_add_mod W L
        have h2 := Nat.mod_lt W hr0
        rw [Nat.mul_add]; omega
      obtain ⟨c, HC⟩ : ∃ c, Hid (W / L + 1 = c) := ⟨_, Lib.hid rfl⟩
      have hrep := fun w1 => Tryd.strings_Repeat s (W / L + 1) w1 (by omega) (by rw [hsz1]; omega)
      rw [hsl] at hrep
      have hrl : (Lib.repeatL r c).length = c * L := by rw [Lib.repeatL_length, HL.out]
      simp only [HC.out] at hdv hrep HNx hmul hge
      have htsz : (strB (Lib.repeatL r c)).size = c * L := by rw [strB_size, hrl]
      have htk := strB_take (Lib.repeatL r c) W
      have hcL : c * L = L * c := Nat.mul_comm _ _
      rw [hcL] at htsz
      obtain ⟨t, HTt⟩ : ∃ t, Hid (strB (Lib.repeatL r c) = t) := ⟨_, Lib.hid rfl⟩
      have hrep' : ∀ w1, Calls Tryd.prog 15 #[.string s, .int .i64 c] w1 fun e w' => e = .returned (.string t) ∧ Below w1.heap.size w1 w' := fun w1 => by rw [← HTt.out]; exact hrep w1
      rw [HTt.out] at htsz htk
      have htr : ∀ w1, Calls Tryd.prog 16 #[.string (t.extract 0 W), .string ⟨#[49]⟩] w1 fun e w' => e = .returned (.string (strB (nxW W r))) ∧ w1 = w' := fun w1 => by
        refine (Tryd.strings_TrimRight_one (t.extract 0 W) 49 (by decide) w1 (by rw [ByteArray.size_extract]; omega)).mono ?_
        rintro e w' ⟨rfl, rfl⟩
        refine ⟨?_, rfl⟩
        rw [htk, strB_list, HNx.out]
        rfl
      obtain ⟨y, HYy⟩ : ∃ y, Hid (strB (nxW W r) = y) := ⟨_, Lib.hid rfl⟩
      simp only [HYy.out] at htr
      have htW : W ≤ t.size := by omega
      have ht48 : t.size ≤ 48 := by omega
      clear hrep hrl hcL hsl hix htk hge hmul htsz
      by_cases hd : W % L = 0
      · have HO1 : Hid (Lib.byteCells (oAt W (k + 1)) = Lib.byteCells (oAt W k) ++ Lib.strCells s) := Lib.hid (by
          rw [HOk.out, if_pos ⟨hr.out, hd⟩, Lib.byteCells, List.map_append, ← HSs.out]
          unfold Lib.strCells
          rw [strB_list]; rfl)
        have ho64' : (oAt W k).length ≤ 64 := by rw [HOk.out, if_pos ⟨hr.out, hd⟩, List.length_append] at ho64; omega
        have hdd : (W : Int) % (L : Int) = 0 := by rw [hmd, hd]; rfl
        clear hd hmd ho64
        go_wp2_with fail
        refine (WriteString_any b b _ s _ hbd.out (by rw [Lib.byteCells_length]; omega) hsz.out).mono ?_
        rintro e w2 ⟨rfl, hb2, hbl2⟩
        have HBd : Hid (Lib.IsBuilder 38 5 b b (Lib.byteCells (oAt W (k + 1))) w2) := Lib.hid (by rw [HO1.out]; exact .inr hb2)
        have HBl := Lib.hid (hbl.out.trans hbl2)
        have HSz : Hid (b ≤ w2.heap.size) := Lib.hid (Nat.le_trans hsz.out hbl2.size)
        clear hb2 hbl2
        go_wp2_with fail
        refine (hrep' _).mono ?_
        rintro e w3 ⟨rfl, hb3⟩
        have HBd3 : Hid (Lib.IsBuilder 38 5 b b (Lib.byteCells (oAt W (k + 1))) w3) := Lib.hid (bd_later HBd.out hb3)
        have HBl3 := Lib.hid (HBl.out.trans (hb3.mono HSz.out))
        have HSz3 : Hid (b ≤ w3.heap.size) := Lib.hid (Nat.le_trans HSz.out hb3.size)
        clear hb3
        go_wp2_with fail
        refine (htr _).mono ?_
        rintro e w4 ⟨rfl, rfl⟩
        by_cases hn : nxW W r = []
        · have he : y.toList = [] := by rw [← HYy.out, strB_toList]; exact hn
          have he2 : y.toList.isEmpty = true := by rw [he]; rfl
          have HE := Lib.hid (hend hn)
          have hst := fun w1 h1 h2 => Tryd.Builder_String_any b b (oAt W (k + 1)) w1 h1 h2
          rw [HE.out] at hst
          have HBd4 : Hid (Lib.IsBuilder 38 5 b b (Lib.byteCells (LW W)) w3) := Lib.hid (by have := HBd3.out; rwa [HE.out] at this)
          clear hn hend
          go_wp2_with fail
          refine (hst _ HBd4.out HSz3.out).mono ?_
          rintro e w5 ⟨rfl, hb5⟩
          have HB5 := Lib.hid (HBl3.out.trans hb5)
          clear hst hb5
          go_wp2
          go_ret2
          exact ⟨rfl, by rw [HBb.out]; exact HB5.out⟩
        · have he : y.toList ≠ [] := by rw [← HYy.out, strB_toList]; exact hn
          have he2 : y.toList.isEmpty = false := by rw [← HYy.out, strB_toList]; simpa using hn
          have hyl : y.size = (nxW W r).length := by rw [← HYy.out, strB_size]
          have hy1 : 1 ≤ y.size := by rw [hyl]; exact List.length_pos_iff.2 hn
          have hy48 : y.size ≤ 48 := by
            rw [hyl, HNx.out]
            refine Nat.le_trans (trim_len _ _) ?_
            rw [List.length_take]; omega
          have HNw : Hid (y.extract 0 (y.size - 1) ++ ⟨#[49]⟩ = strB (wAt W (k + 1))) := Lib.hid (by
            rw [HWk.out, if_neg (by intro c; rcases c with c | c; exact hr.out c; exact hn c), ← HYy.out, strB_size, strB_take, ← strB_append]; rfl)
          have HNe : Hid (wAt W (k + 1) ≠ []) := Lib.hid (by
            rw [HWk.out, if_neg (by intro c; rcases c with c | c; exact hr.out c; exact hn c)]; simp)
          have HM := Lib.hid (hmu2 HNe.out (by omega))
          have hy2 : (y.size : Int) - 1 = ((y.size - 1 : Nat) : Int) := by omega
          obtain ⟨q, HQ⟩ : ∃ q, Hid (y.size - 1 = q) := ⟨_, Lib.hid rfl⟩
          rw [HQ.out] at HNw hy2
          have hqy : q ≤ y.size := by have := HQ.out; omega
          clear hn hend hyl
          go_wp2
          go_roundw
          case rel => exact ⟨k + 1, by omega, by rw [HNw.out], HNe, HBd3, HBl3, HSz3⟩
          case measure => rw [HNw.out, HM.out, hmu]; omega
      · have HO1 : Hid (oAt W (k + 1) = oAt W k) := Lib.hid (by rw [HOk.out, if_neg (fun c => hd c.2)])
        have hdd : ((W : Int) % (L : Int) == 0) = false := beq_eq_false_iff_ne.2 (by rw [hmd]; omega)
        clear hd hmd ho64
        have HBd : Hid (Lib.IsBuilder 38 5 b b (Lib.byteCells (oAt W (k + 1))) wr) := Lib.hid (by rw [HO1.out]; exact hbd.out)
        have HBl := hbl
        have HSz := hsz
        go_wp2_with fail
        refine (hrep' _).mono ?_
        rintro e w3 ⟨rfl, hb3⟩
        have HBd3 : Hid (Lib.IsBuilder 38 5 b b (Lib.byteCells (oAt W (k + 1))) w3) := Lib.hid (bd_later HBd.out hb3)
        have HBl3 := Lib.hid (HBl.out.trans (hb3.mono HSz.out))
        have HSz3 : Hid (b ≤ w3.heap.size) := Lib.hid (Nat.le_trans HSz.out hb3.size)
        clear hb3
        go_wp2_with fail
        refine (htr _).mono ?_
        rintro e w4 ⟨rfl, rfl⟩
        by_cases hn : nxW W r = []
        · have he : y.toList = [] := by rw [← HYy.out, strB_toList]; exact hn
          have he2 : y.toList.isEmpty = true := by rw [he]; rfl
          have HE := Lib.hid (hend hn)
          have hst := fun w1 h1 h2 => Tryd.Builder_String_any b b (oAt W (k + 1)) w1 h1 h2
          rw [HE.out] at hst
          have HBd4 : Hid (Lib.IsBuilder 38 5 b b (Lib.byteCells (LW W)) w3) := Lib.hid (by have := HBd3.out; rwa [HE.out] at this)
          clear hn hend
          go_wp2_with fail
          refine (hst _ HBd4.out HSz3.out).mono ?_
          rintro e w5 ⟨rfl, hb5⟩
          have HB5 := Lib.hid (HBl3.out.trans hb5)
          clear hst hb5
          go_wp2
          go_ret2
          exact ⟨rfl, by rw [HBb.out]; exact HB5.out⟩
        · have he : y.toList ≠ [] := by rw [← HYy.out, strB_toList]; exact hn
          have he2 : y.toList.isEmpty = false := by rw [← HYy.out, strB_toList]; simpa using hn
          have hyl : y.size = (nxW W r).length := by rw [← HYy.out, strB_size]
          have hy1 : 1 ≤ y.size := by rw [hyl]; exact List.length_pos_iff.2 hn
          have hy48 : y.size ≤ 48 := by
            rw [hyl, HNx.out]
            refine Nat.le_trans (trim_len _ _) ?_
            rw [List.length_take]; omega
          have HNw : Hid (y.extract 0 (y.size - 1) ++ ⟨#[49]⟩ = strB (wAt W (k + 1))) := Lib.hid (by
            rw [HWk.out, if_neg (by intro c; rcases c with c | c; exact hr.out c; exact hn c), ← HYy.out, strB_size, strB_take, ← strB_append]; rfl)
          have HNe : Hid (wAt W (k + 1) ≠ []) := Lib.hid (by
            rw [HWk.out, if_neg (by intro c; rcases c with c | c; exact hr.out c; exact hn c)]; simp)
          have HM := Lib.hid (hmu2 HNe.out (by omega))
          have hy2 : (y.size : Int) - 1 = ((y.size - 1 : Nat) : Int) := by omega
          obtain ⟨q, HQ⟩ : ∃ q, Hid (y.size - 1 = q) := ⟨_, Lib.hid rfl⟩
          rw [HQ.out] at HNw hy2
          have hqy : q ≤ y.size := by have := HQ.out; omega
          clear hn hend hyl
          go_wp2
          go_roundw
          case rel => exact ⟨k + 1, by omega, by rw [HNw.out], HNe, HBd3, HBl3, HSz3⟩
          case measure => rw [HNw.out, HM.out, hmu]; omega
end Go.Proofs.YtdnikkmioighkaaDoor

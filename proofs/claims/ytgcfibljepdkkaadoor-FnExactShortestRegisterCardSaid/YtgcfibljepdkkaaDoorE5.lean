/-
  Contract of the program's add: one more linear equation modulo 2. Conditions: at most 32 unknowns; the rows in echelon form.
-/
import Derived.Test.YtgcfibljepdkkaaDoorE4
import Derived.Test.YtgcfibljepdkkaaDoorLs2
namespace Go.Proofs.YtgcfibljepdkkaaDoor
open Go.RowKit
set_option linter.unusedVariables false

/-- 'append(v, z)' to a slice that may be nil. -/
theorem wpAppV {P : Program} {t e : TypeId} {k : IntKind} {bytes : Nat} (T : SliceT P t e k bytes) {ops : Array Oper} {rest : List Oper} {o : Oper} {a : Act} {Q : Exit → Act → World → Prop} (hgd : o.guard = none) (s x : Operand)
    (ho : o.op = .call { callee := .builtin .append, args := #[s, x], argTypes := #[t, t] })
    {base : Nat} {wr : World} {v : Value} {xs : List Int} {z : Int} {e' : TypeId} (hs : a.eval s = v) (hown : wr.ownsRow base e 1 v xs.length (xs.map (Value.int k))) (hB : base ≤ wr.heap.size)
    (hx : a.eval x = .slice (some ⟨wr.heap.size, 0, none⟩) 1 1) (hb : bytes ≤ 8) (hn : xs.length < 1000000000000) (n : Nat) (hn1 : xs.length + 1 = n)
    (h : ∀ g cap w', OwnI k base e wr w' (.slice (some ⟨g, 0, none⟩) n cap) (xs ++ [z]) → wpList P ops Q rest (a.put o.dst (.slice (some ⟨g, 0, none⟩) n cap)) w') : wpList P ops Q (o :: rest) a (wr.alloc (.cells #[.int k z] e')) := by
  obtain ⟨i, hi, hz0, hz1, hz2⟩ := T.info
  have h1 := hown.alloc (.cells #[.int k z] e')
  refine wpList_append_own _ hgd s x t ho base e i (.int k 0) 1 bytes T.under hi hz0 hz1 hz2 rfl (by decide) v _ _ hs h1 ⟨wr.heap.size, 0, none⟩ 1 1 [.int k z] hx rfl ?_ ?_ ?_ ?_ ?_ ?_
  · intro j u hj
    match j, hj with
    | 0, hj =>
      simp at hj; subst hj
      show (wr.alloc (.cells #[.int k z] e')).cell? ⟨wr.heap.size, 0, none⟩ = _
      rw [cell_of_row _ _ _ _ _ _ (heap_alloc_new wr _)]; rfl
    | j + 1, hj => simp at hj
  · intro u hu; simp at hu; subst hu; rfl
  · unfold maxLen; omega
  · have : (xs.length + 1) * bytes ≤ 1000000000000 * 8 := Nat.mul_le_mul (by omega) hb
    omega
  · simp; omega
  · intro v' w' hown' hgrow hnil
    have hO : OwnI k base e wr w' v' (xs ++ [z]) := by
     refine ⟨by simpa using hown', ?_, ?_, ?_⟩
     · exact ((Below.refl _ _).alloc hB _).grown hgrow (by simp; omega) fun k' hk' => (h1.lt k' hk').1
     · have h2 := hgrow.size; simp at h2; omega
     · rcases hown'.2 with ⟨h', _⟩ | ⟨g', cap', cur, h', _⟩
       · have := (hnil.1 h').2; omega
       · exact ⟨g', cap', by simpa using h'⟩
    obtain ⟨g, cap, rfl, _⟩ := hO.cell
    have e : (xs ++ [z]).length = n := by rw [List.length_append]; exact hn1
    rw [e] at hO ⊢
    exact h g cap w' hO
/-- The rows of which the first k have been cleared. -/
def clrK (rows : List Nat) (r l : Nat) : Nat → List Nat
  | 0 => rows
  | k + 1 => if (rows.getD k 0).testBit l = true then (clrK rows r l k).set k (rows.getD k 0 ^^^ r) else clrK rows r l k
theorem clrK_len (rows : List Nat) (r l : Nat) : ∀ k, (clrK rows r l k).length = rows.length
  | 0 => rfl
  | k + 1 => by rw [clrK]; split <;> simp [clrK_len rows r l k]
theorem getD_set_ne {l : List Nat} {i j z : Nat} (h : i ≠ j) : (l.set i z).getD j 0 = l.getD j 0 := by
  simp only [List.getD, List.getElem?_set_ne h]
theorem getD_set_eq {l : List Nat} {i z : Nat} (h : i < l.length) : (l.set i z).getD i 0 = z := by
  simp [List.getD, h]
theorem clrK_getD (rows : List Nat) (r l : Nat) : ∀ k j, j < rows.length → (clrK rows r l k).getD j 0 = if j < k then (clr rows r l).getD j 0 else rows.getD j 0
  | 0, j, _ => by simp [clrK]
  | k + 1, j, hj => by
    have ih := clrK_getD rows r l k j hj
    rw [clrK]
    by_cases e : j = k
    · subst e
      rw [if_neg (Nat.lt_irrefl j)] at ih
      rw [if_pos (Nat.lt_succ_self j), clr_getD hj]
      split
      · rw [getD_set_eq (by rw [clrK_len]; exact hj)]
      · exact ih
    · have : (if j < k + 1 then (clr rows r l).getD j 0 else rows.getD j 0) = if j < k then (clr rows r l).getD j 0 else rows.getD j 0 := by
        by_cases c : j < k
        · rw [if_pos c, if_pos (by omega)]
        · rw [if_neg c, if_neg (by omega)]
      rw [this, ← ih]
      split
      · exact getD_set_ne (fun q => e q.symm)
      · rfl
theorem clrK_at {rows : List Nat} {r l k : Nat} (hk : k < rows.length) : (clrK rows r l k).getD k 0 = rows.getD k 0 := by
  rw [clrK_getD rows r l k k hk, if_neg (Nat.lt_irrefl k)]
theorem clrK_all (rows : List Nat) (r l : Nat) : clrK rows r l rows.length = clr rows r l := by
  apply List.ext_getElem
  · rw [clrK_len, clr_len]
  · intro j h1 h2
    have h3 : j < rows.length := by rw [clrK_len] at h1; exact h1
    have := clrK_getD rows r l rows.length j h3
    rw [if_pos h3] at this
    rw [List.getD_eq_getElem?_getD, List.getD_eq_getElem?_getD, List.getElem?_eq_getElem h1, List.getElem?_eq_getElem h2] at this
    simpa using this
theorem nl_set (es : List Nat) (i z : Nat) : (nl es).set i (z : Int) = nl (es.set i z) := by
  unfold nl
  rw [List.map_set]
/-- A store into the rows. -/
theorem EqAt.stored {w : World} {p W g c k z : Nat} {rows : List Nat} (h : EqAt w p W (.slice (some ⟨g, 0, none⟩) rows.length c) rows) (hg : p + 1 ≤ g) (h0 : 0 < rows.length) :
    EqAt (w.setCell ⟨g, k, none⟩ (.int .i64 (z : Nat))) p W (.slice (some ⟨g, 0, none⟩) rows.length c) (rows.set k z) := by
  refine ⟨h.blk.far (show p ≠ g by omega) _, ?_⟩
  rcases h.rows with ⟨rfl, _⟩ | q
  · simp at h0
  · have q2 := q
    rw [← nl_len rows] at q2
    have q3 := q2.stored k (z : Nat)
    rw [nl_set] at q3
    rw [nl_len] at q3
    have e : (rows.set k z).length = rows.length := by simp
    exact .inr ⟨q3.1, Below.refl _ _, q3.2.2.1, q3.2.2.2⟩
/-- A new row behind the others. -/
theorem EqAt.grown {w w' : World} {p W : Nat} {v v' : Value} {rows rows' : List Nat} (h : EqAt w p W v rows) (hn : OwnI .i64 (p + 1) 2 w w' v' (nl rows')) : EqAt (w'.setCell ⟨p, 1, none⟩ v') p W v' rows' := by
  have hb : Blk w' p #[.int .i64 W, v] 57 := (hn.below.block p (by omega)).trans h.blk
  refine ⟨hb.set 1 v', .inr ?_⟩
  obtain ⟨g, cap, rfl⟩ := hn.2.2.2
  have hg := hn.1.lt g rfl
  refine ⟨row_kept hn.1 (Below.heap_setCell w' ⟨p, 1, none⟩ _ g (by show g ≠ p; omega)), Below.refl _ _, ?_, g, cap, rfl⟩
  have := hn.2.2.1
  simpa [World.setCell] using this
theorem EqV.owns {w : World} {p : Nat} {v : Value} {rows : List Nat} (h : EqV w p v rows) : w.ownsRow (p + 1) 2 1 v (nl rows).length ((nl rows).map (Value.int .i64)) := by
  rcases h with ⟨rfl, rfl⟩ | h
  · exact World.ownsRow_nil ..
  · exact h.1
/-- What add hands back. -/
def AddR (p W : Nat) (rows : List Nat) (row0 : Nat) (w : World) (e : Ending) (w' : World) : Prop :=
  (∃ (v' : Value) (rows' : List Nat) (ld' : Nat → Nat), e = .returned (.bool true) ∧ EqAt w' p W v' rows' ∧ Ech W rows' ld' ∧ rows'.length ≤ rows.length + 1 ∧ (∀ x, AllS W rows' x ↔ AllS W rows x ∧ Sat W row0 x) ∧ Below p w w') ∨
  (e = .returned (.bool false) ∧ (∀ x, AllS W rows x → ¬ Sat W row0 x) ∧ Below p w w')
theorem add_none {W r row0 : Nat} {rows : List Nat} {ld : Nat → Nat} (hr : rdc rows ld row0 rows.length = r) (hlt : r < 2 ^ (W + 1)) (h0 : ∀ i, i < W → r.testBit i = false) :
    (r = 0 → ∀ x, AllS W rows x ↔ AllS W rows x ∧ Sat W row0 x) ∧ (r ≠ 0 → ∀ x, AllS W rows x → ¬ Sat W row0 x) := by
  constructor
  · intro e x
    refine ⟨fun hx => ⟨hx, (rdc_sat (ld := ld) hx rows.length (Nat.le_refl _)).1 ?_⟩, fun h => h.1⟩
    rw [hr, e]; exact sat_zero W x
  · intro e x hx hs
    have h1 := (rdc_sat (ld := ld) hx rows.length (Nat.le_refl _)).2 hs
    rw [hr] at h1
    unfold Sat at h1
    rw [dt_none x W h0] at h1
    apply e
    apply Nat.eq_of_testBit_eq
    intro i
    rw [Nat.zero_testBit]
    by_cases c : i < W
    · exact h0 i c
    · by_cases d : i = W
      · subst d; exact h1.symm
      · exact Nat.testBit_lt_two_pow (Nat.lt_of_lt_of_le hlt (Nat.pow_le_pow_right (by decide) (by omega)))
set_option maxHeartbeats 1000000 in
set_option maxRecDepth 100000 in
theorem add_any {w : World} {p W m b : Nat} {v : Value} {rows : List Nat} {ld : Nat → Nat} (h : EqAt w p W v rows) (hE : Ech W rows ld) (hW : W ≤ 32) (hm : m < 2 ^ W) (hb : b ≤ 1) (hn : rows.length ≤ 99) :
    Calls Tryd.prog 37 #[.pointer (some ⟨p, 0, none⟩), .int .i64 m, .int .i64 b] w (AddR p W rows (m ||| b * 2 ^ W) w) := by
  have hp := pow33 hW
  have hb2 : b * 2 ^ W ≤ 1 * 2 ^ W := Nat.mul_le_mul_right _ hb
  have hpw : 2 ^ W < 2 ^ (W + 1) := Nat.pow_lt_pow_right (by decide) (by omega)
  have hr0 : m ||| b * 2 ^ W < 2 ^ (W + 1) := Nat.or_lt_two_pow (by omega) (by omega)
  have hsh := shl_nat (b := b) (s := W) (by omega)
  have hor := i64_or_nat m (b * 2 ^ W) (by omega) (by omega)
  have hred := fun w1 (h : EqAt w1 p W v rows) => reduced_any h hE hW hr0 (by omega)
  have hrl := rdc_lt (ld := ld) hr0 hE.lt rows.length (Nat.le_refl _)
  have hoff := rdc_off (m ||| b * 2 ^ W) hE rows.length (Nat.le_refl _)
  obtain ⟨r, hrr⟩ : ∃ r, rdc rows ld (m ||| b * 2 ^ W) rows.length = r := ⟨_, rfl⟩
  have HAN := fun h0 => add_none hrr (by rw [← hrr]; exact hrl) h0
  have HRS : Hid (∀ x, AllS W rows x → (Sat W r x ↔ Sat W (m ||| b * 2 ^ W) x)) := Lib.hid fun x hx => by rw [← hrr]; exact rdc_sat hx _ (Nat.le_refl _)
  simp only [hrr] at hred hrl hoff
  obtain ⟨row0, HR0⟩ : ∃ row0, Hid (m ||| b * 2 ^ W = row0) := ⟨_, Lib.hid rfl⟩
  simp only [HR0.out] at hor hred HAN HRS ⊢
  obtain ⟨bs, HBS⟩ : ∃ bs, Hid (b * 2 ^ W = bs) := ⟨_, Lib.hid rfl⟩
  rw [HBS.out] at hsh hor
  have c0 := h.blk.cell 0 rfl
  have c1 := h.blk.cell 1 rfl
  have H := Lib.hid h
  have HE := Lib.hid hE
  have HOff := Lib.hid hoff
  clear hrr h hE hoff hb2 hpw hm hr0
  rcases lead_or r W W (Nat.le_refl _) with ⟨l, _, hl⟩ | h0
  · have hle := fun w1 c0 => lead_yes (w := w1) (p := p) c0 hW hrl hl
    have hl32 : l < 32 := by have := hl.1; omega
    obtain ⟨hech, hall⟩ := ech_add HE.out hrl hl HOff.out
    have HFin : Hid (Ech W (clr rows r l ++ [r]) (fun i => if i < rows.length then ld i else l) ∧ ∀ x, AllS W (clr rows r l ++ [r]) x ↔ AllS W rows x ∧ Sat W row0 x) := Lib.hid ⟨hech, fun x => by
      rw [hall]
      exact ⟨fun ⟨a, b⟩ => ⟨a, (HRS.out x a).1 b⟩, fun ⟨a, b⟩ => ⟨a, (HRS.out x a).2 b⟩⟩⟩
    clear HAN hech hall
    obtain ⟨a, c, rfl, hcell⟩ := H.out.open
    have HCc := Lib.hid hcell
    have hr63 : r < 9223372036854775808 := by omega
    have HLt := Lib.hid HE.out.lt
    have HLead := Lib.hid hl
    clear hcell hl hrl
    go_enter Tryd.func37, Tryd.ntmps37
    go_wp2_with fail
    refine (hred _ H.out).mono ?_
    rintro e w' ⟨rfl, rfl⟩
    go_wp2_with fail
    refine (hle _ c0).mono ?_
    rintro e w' ⟨rfl, rfl⟩
    go_wp2
    clear hred
    go_loopw [31] (fun i wr => ∃ k : Nat, k ≤ rows.length ∧ i = .int .i64 k ∧ Hid (EqAt wr p W (.slice a rows.length c) (clrK rows r l k)) ∧ Hid (Below p w wr)) (fun i _ => rows.length - (intOf i).toNat)
    case atStart => exact ⟨0, Nat.zero_le _, rfl, H, Lib.hid (Below.refl _ _)⟩
    case round =>
      obtain ⟨k, hk, rfl, heq, hbel⟩ := hrel
      by_cases hlt : k < rows.length
      · obtain ⟨a', c', hv, hopen⟩ := heq.out.open
        simp only [Value.slice.injEq] at hv
        obtain ⟨rfl, hvv, rfl⟩ := hv
        clear hvv
        obtain ⟨g, rfl, hg1, hg2, hcc, hfr⟩ := hopen (by rw [clrK_len]; omega)
        have q1 := hcc k (by rw [clrK_len]; exact hlt)
        have q2 := hfr k
        rw [clrK_at hlt] at q1
        have d0 := heq.out.blk.cell 0 rfl
        have d1 := heq.out.blk.cell 1 rfl
        have hx := HLt.out _ (mem_getD hlt)
        have HN : Hid (clrK rows r l (k + 1) = if (rows.getD k 0).testBit l = true then (clrK rows r l k).set k (rows.getD k 0 ^^^ r) else clrK rows r l k) := Lib.hid rfl
        obtain ⟨x, HX⟩ : ∃ x, Hid (rows.getD k 0 = x) := ⟨_, Lib.hid rfl⟩
        simp only [HX.out] at HN q1 hx
        have hx63 : x < 9223372036854775808 := by omega
        have hxor := i64_xor_nat x r hx63 hr63
        clear hopen hcc hfr hx
        cases hbit : x.testBit l with
        | true =>
          have hA := and_yes hx63 hbit
          rw [hbit, if_pos rfl] at HN
          have HS : Hid (EqAt (wr.setCell ⟨g, k, none⟩ (.int .i64 ((x ^^^ r : Nat) : Int))) p W (.slice (some ⟨g, 0, none⟩) rows.length c) (clrK rows r l (k + 1))) := Lib.hid (by
            have h1 := heq.out
            rw [← clrK_len rows r l k] at h1 ⊢
            rw [HN.out]
            exact h1.stored hg1 (by rw [clrK_len]; omega))
          clear hbit
          go_wp2_with (go_at_call 58; refine (hle _ d0).mono ?_; rintro e w' ⟨rfl, rfl⟩)
          go_roundw
          case rel => exact ⟨k + 1, by omega, by go_num, HS, Lib.hid (hbel.out.setCell (by show p ≤ g; omega) _)⟩
          case measure => simp [intOf]; omega
        | false =>
          have hA := and_no hx63 hbit
          rw [hbit, if_neg (by decide)] at HN
          clear hbit hxor
          go_wp2_with (go_at_call 58; refine (hle _ d0).mono ?_; rintro e w' ⟨rfl, rfl⟩)
          go_roundw
          case rel => exact ⟨k + 1, by omega, by go_num, by rw [HN.out]; exact heq, hbel⟩
          case measure => simp [intOf]; omega
      · have hke : k = rows.length := by omega
        subst hke
        have HQ : Hid (EqAt wr p W (.slice a rows.length c) (clr rows r l)) := Lib.hid (by have := heq.out; rwa [clrK_all] at this)
        have d1 := HQ.out.blk.cell 1 rfl
        have f1 := HQ.out.blk.free 1
        have hpz : p + 1 ≤ wr.heap.size := HQ.out.blk.lt
        have HOw := Lib.hid HQ.out.rows.owns
        have HLn : Hid ((nl (clr rows r l)).length < 1000000000000) := Lib.hid (by rw [nl_len, clr_len]; omega)
        have HNl : Hid (nl (clr rows r l) ++ [(r : Int)] = nl (clr rows r l ++ [r])) := Lib.hid (by rw [nl_snoc])
        have HCl : Hid ((nl (clr rows r l)).length = rows.length) := Lib.hid (by rw [nl_len, clr_len])
        go_wp2_with (at_builtin; refine wpAppV tI rfl _ _ rfl (by rw [← HCl.out]; rfl) HOw.out hpz rfl (by decide) HLn.out (rows.length + 1) (by rw [HCl.out]) ?_; intro g7 cap7 w7 hown7; have HB7 : Hid (Blk w7 p #[.int .i64 W, .slice a rows.length c] 57) := Lib.hid ((hown7.below.block p (by omega)).trans HQ.out.blk); have e0 := HB7.out.cell 1 rfl; have e1 := HB7.out.free 1; have HO7 := Lib.hid hown7; clear hown7)
        go_ret
        refine .inl ⟨_, _, _, rfl, HQ.out.grown (by rw [← HNl.out]; exact HO7.out), HFin.out.1, ?_, HFin.out.2, (hbel.out.trans (HO7.out.below.mono (by omega))).setCell (Nat.le_refl _) _⟩
        rw [List.length_append, clr_len]; exact Nat.le_refl _
  · have hle := fun w1 c0 => lead_no (w := w1) (p := p) c0 hW hrl h0
    have HA := Lib.hid (HAN h0)
    clear HAN h0
    by_cases hz : r = 0
    · have HA1 := Lib.hid (HA.out.1 hz)
      subst hz
      go_enter Tryd.func37, Tryd.ntmps37
      go_wp2_with fail
      refine (hred _ H.out).mono ?_
      rintro e w' ⟨rfl, rfl⟩
      go_wp2_with fail
      refine (hle _ c0).mono ?_
      rintro e w' ⟨rfl, rfl⟩
      go_wp2
      go_ret
      exact .inl ⟨v, rows, ld, rfl, H.out, HE.out, by omega, HA1.out, Below.refl _ _⟩
    · have hne : ((r : Int) == 0) = false := beq_eq_false_iff_ne.2 (by omega)
      go_enter Tryd.func37, Tryd.ntmps37
      go_wp2_with fail
      refine (hred _ H.out).mono ?_
      rintro e w' ⟨rfl, rfl⟩
      go_wp2_with fail
      refine (hle _ c0).mono ?_
      rintro e w' ⟨rfl, rfl⟩
      go_wp2
      go_ret
      exact .inr ⟨rfl, HA.out.2 hz, Below.refl _ _⟩
end Go.Proofs.YtgcfibljepdkkaaDoor

/-
  Reading a fraction's text: both sides give the valid fraction with the text, if there is one. Condition for the program's: the library's listed variables lie as their initialisers lay them, and the library's greatest length is some number.
-/
import Derived.Test.YthkmhpkoanmbkaaDoorM13
import Derived.Test.YthkmhpkoanmbkaaDoorRd
import Derived.Test.YthkmhpkoanmbkaaDoorBlk
namespace Go.Proofs.YthkmhpkoanmbkaaDoor
open Go.RowKit
set_option linter.unusedVariables false

/-- What is handed back of a fraction: the pair and whether it counts. -/
def FracR (b : Bool) (n d : Int) (w : World) (e : Ending) (w' : World) : Prop := e = .returned (.tuple #[.agg #[.int .i64 n, .int .i64 d], .bool b]) ∧ Below w.heap.size w w'
theorem rd_dec {s : ByteArray} {n : Int} (h0 : -1000000000000000000 ≤ n) (h1 : n ≤ 1000000000000000000) (h : s = decS n) : rdB 1000000000000000000 s = true ∧ rdV 1000000000000000000 s = n := rd_some (by omega) ⟨h0, h1, h⟩
theorem slice_size (s : ByteArray) (a b : Nat) (h : a ≤ b) (h2 : b ≤ s.size) : (s.extract a b).size = b - a := by
  rw [ByteArray.size_extract]; omega
/-- The library's greatest length for its search is some number. -/
def MaxL (w : World) : Prop := ∃ m, w.cell? ⟨0, 0, none⟩ = some (.int .i64 m)
theorem MaxL.later {w w' : World} (h : MaxL w) (hb : Below w.heap.size w w') : MaxL w' := by
  obtain ⟨m, hm⟩ := h
  exact ⟨m, (hb.cell (p := ⟨0, 0, none⟩) (World.block_lt_of_cell? w _ hm)).trans hm⟩
set_option maxRecDepth 100000 in
set_option maxHeartbeats 2000000 in
theorem ReadFraction_any (s : ByteArray) (w : World) (hs : s.size ≤ 1048576) (ht : Tab10 w) (he : Errs w) (hm : MaxL w) :
    Calls Tryd.prog 11 #[.string s] w fun e w' => FracR (rfB s) (rfP s).1 (rfP s).2 w e w' := by
  obtain ⟨rb, hb⟩ : ∃ b, rfB s = b := ⟨_, rfl⟩
  obtain ⟨rn, hn⟩ : ∃ n, (rfP s).1 = n := ⟨_, rfl⟩
  obtain ⟨rd, hd⟩ : ∃ d, (rfP s).2 = d := ⟨_, rfl⟩
  rw [hb, hn, hd]
  have HB := Lib.hid hb
  have HN := Lib.hid hn
  have HD := Lib.hid hd
  clear hb hn hd
  obtain ⟨A, hA⟩ : ∃ A : ByteArray, ⟨(Lib.cut s.data.toList [47]).1.toArray⟩ = A := ⟨_, rfl⟩
  obtain ⟨B, hB⟩ : ∃ B : ByteArray, ⟨(Lib.cut s.data.toList [47]).2.1.toArray⟩ = B := ⟨_, rfl⟩
  obtain ⟨dv, hdv⟩ : ∃ dv, (Lib.cut s.data.toList [47]).2.2 = dv := ⟨_, rfl⟩
  have hC0 := cut_47 s
  rw [hA, hB, hdv] at hC0
  have HC := Lib.hid hC0
  have hsAB : A.size ≤ s.size ∧ (dv = true → B.size ≤ s.size) := by
    rcases HC.out with ⟨h1, h2, _⟩ | ⟨h1, _, h3⟩
    · rw [h2]; exact ⟨Nat.le_refl _, fun h => by rw [h1] at h; cases h⟩
    · have h4 := congrArg List.length h3
      rw [← Lib.size_eq, List.length_append, List.length_cons, ← Lib.size_eq, ← Lib.size_eq] at h4
      exact ⟨by omega, fun _ => by omega⟩
  have hsA : A.size ≤ 1048576 := by omega
  have hCut : ∀ wq, MaxL wq → Calls Tryd.prog 28 #[.string s, .string ⟨#[47]⟩] wq fun e w' => e = .returned (.tuple #[.string A, .string B, .bool dv]) ∧ ∃ n, w' = wq.drewN n := fun wq ⟨m, hmq⟩ => by
    have h := Tryd.strings_Cut s ⟨#[47]⟩ m wq (by omega) hmq
    rw [show (⟨#[47]⟩ : ByteArray).data.toList = [47] from rfl, hA, hB, hdv] at h
    exact h
  clear hC0 hA hB hdv
  go_enter Tryd.func11, Tryd.ntmps11
  go_wp2_with fail
  obtain ⟨p, hp⟩ : ∃ p, w.heap.size = p := ⟨_, rfl⟩
  obtain ⟨W0, hW0⟩ : ∃ W0, w.alloc (.cells #[.int .i64 0, .int .i64 0] 25) = W0 := ⟨_, rfl⟩
  have HBk : Hid (Blk W0 p #[.int .i64 0, .int .i64 0] 25) := Lib.hid (by rw [← hW0]; exact Blk.new' hp _ _)
  have HB0 : Hid (Below w.heap.size w W0) := Lib.hid (by rw [← hW0]; exact bw_alloc (bw_refl _) _)
  have HP := Lib.hid hp
  rw [hW0, hp]
  clear hW0 hp
  refine (hCut _ (hm.later HB0.out)).mono ?_
  rintro e w0 ⟨rfl, n0, hw0⟩
  have HK0 : Hid (Blk w0 p #[.int .i64 0, .int .i64 0] 25) := Lib.hid (by rw [hw0]; exact HBk.out.drewN n0)
  have HF0 : Hid (Below w.heap.size w w0) := Lib.hid (by rw [hw0]; exact bw_drewN HB0.out n0)
  clear hw0 hCut
  go_wp2_with fail
  refine (parse_any A _ hsA (he.later HF0.out)).mono ?_
  rintro e w1 ⟨hb1, ⟨v, v0, v1, hp, rfl⟩ | ⟨hno, v, t1, a1, rfl⟩⟩
  · have HB1 := Lib.hid (bw_call HF0.out hb1)
    have HK1 := Lib.hid (HK0.out.later hb1)
    have hp0 := hp
    have HPA := Lib.hid hp
    clear hb1 hp0
    cases dv with
    | false =>
      have HSame : Hid (∀ n d, FrT s n d → n = v ∧ d = 1) := Lib.hid fun n d hf => by
        have b := vfB_true hf.1
        obtain ⟨h1, h2, h3⟩ := HC.out.fr hf
        have e1 := hp
        rw [h1, decS_list, parse_itoa (by omega) (by omega)] at e1
        injection e1 with e1
        exact ⟨e1, h3 rfl⟩
      clear hp
      have c0 : w1.cell? ⟨p, 0, none⟩ = some (.int .i64 0) := HK1.out.cell 0 rfl
      have c1 : w1.cell? ⟨p, 1, none⟩ = some (.int .i64 0) := HK1.out.cell 1 rfl
      have f0 := HK1.out.free 0
      have f1 := HK1.out.free 1
      have l0 := HK1.out.lt
      have l1 : ¬ p = w1.heap.size := by omega
      have l2 : ¬ w1.heap.size = p := by omega
      cases hv : vfB v 1 with
      | false =>
        obtain ⟨e1, e2, e3⟩ := fr_none (s := s) fun n d hf => by
            obtain ⟨h1, h2⟩ := HSame.out n d hf
            subst h1
            subst h2
            rw [hf.1] at hv; cases hv
        rw [HB.out] at e1
        rw [HN.out] at e2
        rw [HD.out] at e3
        subst e1
        subst e2
        subst e3
        go_wp2_with fail
        refine (ValidFraction_any v 1 _).mono ?_
        rintro e w5 ⟨rfl, hb5⟩
        rw [hv]
        have HK5 := Lib.hid ((HK1.out.alloc _).later hb5)
        have HF5 := Lib.hid (bw_call (bw_alloc (HB1.out) _) hb5)
        clear hb5
        clear c0 c1 f0 f1 l0 l1 l2
        have c0 : w5.cell? ⟨p, 0, none⟩ = some (.int .i64 0) := HK5.out.cell 0 rfl
        have c1 : w5.cell? ⟨p, 1, none⟩ = some (.int .i64 0) := HK5.out.cell 1 rfl
        have f0 := HK5.out.free 0
        have f1 := HK5.out.free 1
        have l0 := HK5.out.lt
        have l1 : ¬ p = w5.heap.size := by omega
        have l2 : ¬ w5.heap.size = p := by omega
        go_wp2
        refine bodyPost_ret (v := .tuple #[.agg #[.int .i64 0, .int .i64 0], .bool false]) (by simp [results, Tryd.results11, go_sem, *]) rfl ⟨rfl, ?_⟩
        exact bw_setCell (bw_setCell (HF5.out) (by rw [HP.out]; exact Nat.le_refl _) _) (by rw [HP.out]; exact Nat.le_refl _) _
      | true =>
        have bv := vfB_true hv
        obtain ⟨q, hq⟩ : ∃ q, w1.heap.size = q := ⟨_, rfl⟩
        have HQ := Lib.hid hq
        clear hq
        go_wp2_with fail
        refine (ValidFraction_any v 1 _).mono ?_
        rintro e w5 ⟨rfl, hb5⟩
        rw [hv]
        have HK5 := Lib.hid ((HK1.out.alloc _).later hb5)
        have HX5 := Lib.hid ((Blk.new w1 _ _).later hb5)
        have HF5 := Lib.hid (bw_call (bw_alloc (HB1.out) _) hb5)
        clear hb5
        clear c0 c1 f0 f1 l0 l1 l2
        have c0 : w5.cell? ⟨p, 0, none⟩ = some (.int .i64 0) := HK5.out.cell 0 rfl
        have c1 : w5.cell? ⟨p, 1, none⟩ = some (.int .i64 0) := HK5.out.cell 1 rfl
        have f0 := HK5.out.free 0
        have f1 := HK5.out.free 1
        have l0 := HK5.out.lt
        have l1 : ¬ p = w5.heap.size := by omega
        have l2 : ¬ w5.heap.size = p := by omega
        have x0 : w5.cell? ⟨w1.heap.size, 0, none⟩ = some (.int .i64 v) := HX5.out.cell 0 rfl
        have x1 : w5.cell? ⟨w1.heap.size, 1, none⟩ = some (.int .i64 1) := HX5.out.cell 1 rfl
        by_cases heq : s = ftS v 1
        · obtain ⟨e1, e2, e3⟩ := fr_some (s := s) (⟨hv, heq⟩ : FrT s v 1)
          rw [HB.out] at e1
          rw [HN.out] at e2
          rw [HD.out] at e3
          subst e1
          have hT := fractionText_any v 1 w5 bv.2.1.1 bv.2.1.2 bv.1.1 bv.1.2 (ht.later (HF5.out))
          rw [← heq] at hT
          have HQ2 := Lib.hid heq
          clear heq
          go_wp2_with fail
          refine hT.mono ?_
          rintro e w6 ⟨rfl, hb6⟩
          have HK6 := Lib.hid (HK5.out.later hb6)
          have HX6 := Lib.hid (HX5.out.later hb6)
          have HF6 := Lib.hid (bw_call HF5.out hb6)
          clear hb6 hT x0 x1
          clear c0 c1 f0 f1 l0 l1 l2
          have c0 : w6.cell? ⟨p, 0, none⟩ = some (.int .i64 0) := HK6.out.cell 0 rfl
          have c1 : w6.cell? ⟨p, 1, none⟩ = some (.int .i64 0) := HK6.out.cell 1 rfl
          have f0 := HK6.out.free 0
          have f1 := HK6.out.free 1
          have l0 := HK6.out.lt
          have l1 : ¬ p = w6.heap.size := by omega
          have l2 : ¬ w6.heap.size = p := by omega
          have x0 : w6.cell? ⟨w1.heap.size, 0, none⟩ = some (.int .i64 v) := HX6.out.cell 0 rfl
          have x1 : w6.cell? ⟨w1.heap.size, 1, none⟩ = some (.int .i64 1) := HX6.out.cell 1 rfl
          go_wp2
          refine bodyPost_ret (v := .tuple #[.agg #[.int .i64 v, .int .i64 1], .bool true]) (by simp [results, Tryd.results11, go_sem, *]) rfl ⟨by rw [← e2, ← e3], ?_⟩
          exact bw_setCell (bw_setCell (HF6.out) (by rw [HP.out]; exact Nat.le_refl _) _) (by rw [HP.out]; exact Nat.le_refl _) _
        · obtain ⟨e1, e2, e3⟩ := fr_none (s := s) fun n d hf => by
              obtain ⟨h1, h2⟩ := HSame.out n d hf
              subst h1
              subst h2
              exact heq hf.2
          rw [HB.out] at e1
          rw [HN.out] at e2
          rw [HD.out] at e3
          subst e1
          subst e2
          subst e3
          have hT := fractionText_any v 1 w5 bv.2.1.1 bv.2.1.2 bv.1.1 bv.1.2 (ht.later (HF5.out))
          obtain ⟨X, hX⟩ : ∃ X, ftS v 1 = X := ⟨_, rfl⟩
          rw [hX] at hT heq
          have hne : (X.toList == s.toList) = false := beq_eq_false_iff_ne.2 fun h => heq (toList_inj h).symm
          have hne' : (X.toList != s.toList) = true := by simp [bne, hne]
          clear hX heq
          go_wp2_with fail
          refine hT.mono ?_
          rintro e w6 ⟨rfl, hb6⟩
          have HK6 := Lib.hid (HK5.out.later hb6)
          have HF6 := Lib.hid (bw_call HF5.out hb6)
          clear hb6 hT x0 x1
          clear c0 c1 f0 f1 l0 l1 l2
          have c0 : w6.cell? ⟨p, 0, none⟩ = some (.int .i64 0) := HK6.out.cell 0 rfl
          have c1 : w6.cell? ⟨p, 1, none⟩ = some (.int .i64 0) := HK6.out.cell 1 rfl
          have f0 := HK6.out.free 0
          have f1 := HK6.out.free 1
          have l0 := HK6.out.lt
          have l1 : ¬ p = w6.heap.size := by omega
          have l2 : ¬ w6.heap.size = p := by omega
          go_wp2
          refine bodyPost_ret (v := .tuple #[.agg #[.int .i64 0, .int .i64 0], .bool false]) (by simp [results, Tryd.results11, go_sem, *]) rfl ⟨rfl, ?_⟩
          exact bw_setCell (bw_setCell (HF6.out) (by rw [HP.out]; exact Nat.le_refl _) _) (by rw [HP.out]; exact Nat.le_refl _) _
    | true =>
      have hsB : B.size ≤ 1048576 := by have := hsAB.2 rfl; omega
      have E1 := Lib.hid (he.later (bw_alloc (HB1.out) (.cells #[.int .i64 v, .int .i64 1] 25)))
      go_wp2_with fail
      refine (parse_any B _ hsB E1.out).mono ?_
      rintro e w2 ⟨hb2, ⟨u, u0, u1, hq, rfl⟩ | ⟨hno2, u, t2, a2, rfl⟩⟩
      · have HQB := Lib.hid hq
        have HSame : Hid (∀ n d, FrT s n d → n = v ∧ d = u) := Lib.hid fun n d hf => by
          have b := vfB_true hf.1
          obtain ⟨h1, h2, h3⟩ := HC.out.fr hf
          have e1 := hp
          rw [h1, decS_list, parse_itoa (by omega) (by omega)] at e1
          injection e1 with e1
          have e2 := hq
          rw [(h2 rfl).1, decS_list, parse_itoa (by omega) (by omega)] at e2
          injection e2 with e2
          exact ⟨e1, e2⟩
        clear hp hq
        have HB2 := Lib.hid (bw_call (bw_alloc HB1.out _) hb2)
        have HK2 := Lib.hid ((HK1.out.alloc _).later hb2)
        have HX2 := Lib.hid ((Blk.new w1 #[.int .i64 v, .int .i64 1] 25).later hb2)
        have hpq : p ≠ w1.heap.size := by have := HK1.out.lt; omega
        have hpq' : w1.heap.size ≠ p := Ne.symm hpq
        have hqs : w.heap.size ≤ w1.heap.size := HB1.out.size
        clear hb2
        have HK3 : Hid (Blk (w2.setCell ⟨w1.heap.size, 1, none⟩ (.int .i64 u)) p #[.int .i64 0, .int .i64 0] 25) := Lib.hid (HK2.out.far hpq _)
        have HX3 : Hid (Blk (w2.setCell ⟨w1.heap.size, 1, none⟩ (.int .i64 u)) w1.heap.size #[.int .i64 v, .int .i64 u] 25) := Lib.hid (HX2.out.set 1 _)
        have HF3 : Hid (Below w.heap.size w (w2.setCell ⟨w1.heap.size, 1, none⟩ (.int .i64 u))) := Lib.hid (bw_setCell HB2.out hqs _)
        have c0 : w2.cell? ⟨p, 0, none⟩ = some (.int .i64 0) := HK2.out.cell 0 rfl
        have c1 : w2.cell? ⟨p, 1, none⟩ = some (.int .i64 0) := HK2.out.cell 1 rfl
        have f0 := HK2.out.free 0
        have f1 := HK2.out.free 1
        have l0 := HK2.out.lt
        have l1 : ¬ p = w2.heap.size := by omega
        have l2 : ¬ w2.heap.size = p := by omega
        have x0 : w2.cell? ⟨w1.heap.size, 0, none⟩ = some (.int .i64 v) := HX2.out.cell 0 rfl
        have x1 : w2.cell? ⟨w1.heap.size, 1, none⟩ = some (.int .i64 1) := HX2.out.cell 1 rfl
        have y0 := HX2.out.free 0
        have y1 := HX2.out.free 1
        have y2 := HX2.out.lt
        cases hv : vfB v u with
        | false =>
          obtain ⟨e1, e2, e3⟩ := fr_none (s := s) fun n d hf => by
              obtain ⟨h1, h2⟩ := HSame.out n d hf
              subst h1
              subst h2
              rw [hf.1] at hv; cases hv
          rw [HB.out] at e1
          rw [HN.out] at e2
          rw [HD.out] at e3
          subst e1
          subst e2
          subst e3
          go_wp2_with fail
          refine (ValidFraction_any v u _).mono ?_
          rintro e w5 ⟨rfl, hb5⟩
          rw [hv]
          have HK5 := Lib.hid (HK3.out.later hb5)
          have HF5 := Lib.hid (bw_call (HF3.out) hb5)
          clear hb5
          clear c0 c1 f0 f1 l0 l1 l2
          clear x0 x1 y0 y1 y2
          have c0 : w5.cell? ⟨p, 0, none⟩ = some (.int .i64 0) := HK5.out.cell 0 rfl
          have c1 : w5.cell? ⟨p, 1, none⟩ = some (.int .i64 0) := HK5.out.cell 1 rfl
          have f0 := HK5.out.free 0
          have f1 := HK5.out.free 1
          have l0 := HK5.out.lt
          have l1 : ¬ p = w5.heap.size := by omega
          have l2 : ¬ w5.heap.size = p := by omega
          go_wp2
          refine bodyPost_ret (v := .tuple #[.agg #[.int .i64 0, .int .i64 0], .bool false]) (by simp [results, Tryd.results11, go_sem, *]) rfl ⟨rfl, ?_⟩
          exact bw_setCell (bw_setCell (HF5.out) (by rw [HP.out]; exact Nat.le_refl _) _) (by rw [HP.out]; exact Nat.le_refl _) _
        | true =>
          have bv := vfB_true hv
          go_wp2_with fail
          refine (ValidFraction_any v u _).mono ?_
          rintro e w5 ⟨rfl, hb5⟩
          rw [hv]
          have HK5 := Lib.hid (HK3.out.later hb5)
          have HX5 := Lib.hid (HX3.out.later hb5)
          have HF5 := Lib.hid (bw_call (HF3.out) hb5)
          clear hb5
          clear c0 c1 f0 f1 l0 l1 l2
          clear x0 x1 y0 y1 y2
          have c0 : w5.cell? ⟨p, 0, none⟩ = some (.int .i64 0) := HK5.out.cell 0 rfl
          have c1 : w5.cell? ⟨p, 1, none⟩ = some (.int .i64 0) := HK5.out.cell 1 rfl
          have f0 := HK5.out.free 0
          have f1 := HK5.out.free 1
          have l0 := HK5.out.lt
          have l1 : ¬ p = w5.heap.size := by omega
          have l2 : ¬ w5.heap.size = p := by omega
          have x0 : w5.cell? ⟨w1.heap.size, 0, none⟩ = some (.int .i64 v) := HX5.out.cell 0 rfl
          have x1 : w5.cell? ⟨w1.heap.size, 1, none⟩ = some (.int .i64 u) := HX5.out.cell 1 rfl
          have y0 := HX5.out.free 0
          have y1 := HX5.out.free 1
          have y2 := HX5.out.lt
          by_cases heq : s = ftS v u
          · obtain ⟨e1, e2, e3⟩ := fr_some (s := s) (⟨hv, heq⟩ : FrT s v u)
            rw [HB.out] at e1
            rw [HN.out] at e2
            rw [HD.out] at e3
            subst e1
            have hT := fractionText_any v u w5 bv.2.1.1 bv.2.1.2 bv.1.1 bv.1.2 (ht.later HF5.out)
            rw [← heq] at hT
            have HQ2 := Lib.hid heq
            clear heq
            go_wp2_with fail
            refine hT.mono ?_
            rintro e w6 ⟨rfl, hb6⟩
            have HK6 := Lib.hid (HK5.out.later hb6)
            have HX6 := Lib.hid (HX5.out.later hb6)
            have HF6 := Lib.hid (bw_call HF5.out hb6)
            clear hb6 hT
            clear c0 c1 f0 f1 l0 l1 l2
            clear x0 x1 y0 y1 y2
            have c0 : w6.cell? ⟨p, 0, none⟩ = some (.int .i64 0) := HK6.out.cell 0 rfl
            have c1 : w6.cell? ⟨p, 1, none⟩ = some (.int .i64 0) := HK6.out.cell 1 rfl
            have f0 := HK6.out.free 0
            have f1 := HK6.out.free 1
            have l0 := HK6.out.lt
            have l1 : ¬ p = w6.heap.size := by omega
            have l2 : ¬ w6.heap.size = p := by omega
            have x0 : w6.cell? ⟨w1.heap.size, 0, none⟩ = some (.int .i64 v) := HX6.out.cell 0 rfl
            have x1 : w6.cell? ⟨w1.heap.size, 1, none⟩ = some (.int .i64 u) := HX6.out.cell 1 rfl
            have y0 := HX6.out.free 0
            have y1 := HX6.out.free 1
            have y2 := HX6.out.lt
            go_wp2
            refine bodyPost_ret (v := .tuple #[.agg #[.int .i64 v, .int .i64 u], .bool true]) (by simp [results, Tryd.results11, go_sem, *]) rfl ⟨by rw [← e2, ← e3], ?_⟩
            exact bw_setCell (bw_setCell (HF6.out) (by rw [HP.out]; exact Nat.le_refl _) _) (by rw [HP.out]; exact Nat.le_refl _) _
          · obtain ⟨e1, e2, e3⟩ := fr_none (s := s) fun n d hf => by
                obtain ⟨h1, h2⟩ := HSame.out n d hf
                subst h1
                subst h2
                exact heq hf.2
            rw [HB.out] at e1
            rw [HN.out] at e2
            rw [HD.out] at e3
            subst e1
            subst e2
            subst e3
            have hT := fractionText_any v u w5 bv.2.1.1 bv.2.1.2 bv.1.1 bv.1.2 (ht.later HF5.out)
            obtain ⟨X, hX⟩ : ∃ X, ftS v u = X := ⟨_, rfl⟩
            rw [hX] at hT heq
            have hne : (X.toList == s.toList) = false := beq_eq_false_iff_ne.2 fun h => heq (toList_inj h).symm
            have hne' : (X.toList != s.toList) = true := by simp [bne, hne]
            clear hX heq
            go_wp2_with fail
            refine hT.mono ?_
            rintro e w6 ⟨rfl, hb6⟩
            have HK6 := Lib.hid (HK5.out.later hb6)
            have HF6 := Lib.hid (bw_call HF5.out hb6)
            clear hb6 hT
            clear c0 c1 f0 f1 l0 l1 l2
            clear x0 x1 y0 y1 y2
            have c0 : w6.cell? ⟨p, 0, none⟩ = some (.int .i64 0) := HK6.out.cell 0 rfl
            have c1 : w6.cell? ⟨p, 1, none⟩ = some (.int .i64 0) := HK6.out.cell 1 rfl
            have f0 := HK6.out.free 0
            have f1 := HK6.out.free 1
            have l0 := HK6.out.lt
            have l1 : ¬ p = w6.heap.size := by omega
            have l2 : ¬ w6.heap.size = p := by omega
            go_wp2
            refine bodyPost_ret (v := .tuple #[.agg #[.int .i64 0, .int .i64 0], .bool false]) (by simp [results, Tryd.results11, go_sem, *]) rfl ⟨rfl, ?_⟩
            exact bw_setCell (bw_setCell (HF6.out) (by rw [HP.out]; exact Nat.le_refl _) _) (by rw [HP.out]; exact Nat.le_refl _) _
      · clear hp
        obtain ⟨e1, e2, e3⟩ := fr_none (s := s) fun n d hf => by
            have b := vfB_true hf.1
            exact hno2 _ (by omega) (by omega) ((HC.out.fr hf).2.1 rfl).1
        rw [HB.out] at e1
        rw [HN.out] at e2
        rw [HD.out] at e3
        subst e1
        subst e2
        subst e3
        clear hno2
        have HB2 := Lib.hid (bw_call (bw_alloc HB1.out _) hb2)
        have HK2 := Lib.hid ((HK1.out.alloc _).later hb2)
        have HX2 := Lib.hid ((Blk.new w1 #[.int .i64 v, .int .i64 1] 25).later hb2)
        have hpq : p ≠ w1.heap.size := by have := HK1.out.lt; omega
        have hpq' : w1.heap.size ≠ p := Ne.symm hpq
        have hqs : w.heap.size ≤ w1.heap.size := HB1.out.size
        clear hb2
        have c0 : w2.cell? ⟨p, 0, none⟩ = some (.int .i64 0) := HK2.out.cell 0 rfl
        have c1 : w2.cell? ⟨p, 1, none⟩ = some (.int .i64 0) := HK2.out.cell 1 rfl
        have f0 := HK2.out.free 0
        have f1 := HK2.out.free 1
        have l0 := HK2.out.lt
        have l1 : ¬ p = w2.heap.size := by omega
        have l2 : ¬ w2.heap.size = p := by omega
        go_wp2
        refine bodyPost_ret (v := .tuple #[.agg #[.int .i64 0, .int .i64 0], .bool false]) (by simp [results, Tryd.results11, go_sem, *]) rfl ⟨rfl, ?_⟩
        exact bw_setCell (bw_setCell (HB2.out) (by rw [HP.out]; exact Nat.le_refl _) _) (by rw [HP.out]; exact Nat.le_refl _) _
  · have HB1 := Lib.hid (bw_call HF0.out hb1)
    have HK1 := Lib.hid (HK0.out.later hb1)
    clear hb1
    obtain ⟨e1, e2, e3⟩ := fr_none (s := s) fun n d hf => by
        have b := vfB_true hf.1
        exact hno _ (by omega) (by omega) (HC.out.fr hf).1
    rw [HB.out] at e1
    rw [HN.out] at e2
    rw [HD.out] at e3
    subst e1
    subst e2
    subst e3
    clear hno
    cases dv with
    | false =>
      have c0 : w1.cell? ⟨p, 0, none⟩ = some (.int .i64 0) := HK1.out.cell 0 rfl
      have c1 : w1.cell? ⟨p, 1, none⟩ = some (.int .i64 0) := HK1.out.cell 1 rfl
      have f0 := HK1.out.free 0
      have f1 := HK1.out.free 1
      have l0 := HK1.out.lt
      have l1 : ¬ p = w1.heap.size := by omega
      have l2 : ¬ w1.heap.size = p := by omega
      go_wp2
      refine bodyPost_ret (v := .tuple #[.agg #[.int .i64 0, .int .i64 0], .bool false]) (by simp [results, Tryd.results11, go_sem, *]) rfl ⟨rfl, ?_⟩
      exact bw_alloc (bw_setCell (bw_setCell (HB1.out) (by rw [HP.out]; exact Nat.le_refl _) _) (by rw [HP.out]; exact Nat.le_refl _) _) _
    | true =>
      have hsB : B.size ≤ 1048576 := by have := hsAB.2 rfl; omega
      have E1 := Lib.hid (he.later (bw_alloc (HB1.out) (.cells #[.int .i64 v, .int .i64 1] 25)))
      go_wp2_with fail
      refine (parse_any B _ hsB E1.out).mono ?_
      rintro e w2 ⟨hb2, ⟨u, u0, u1, hq, rfl⟩ | ⟨hno2, u, t2, a2, rfl⟩⟩
      · clear hq
        have HB2 := Lib.hid (bw_call (bw_alloc HB1.out _) hb2)
        have HK2 := Lib.hid ((HK1.out.alloc _).later hb2)
        have HX2 := Lib.hid ((Blk.new w1 #[.int .i64 v, .int .i64 1] 25).later hb2)
        have hpq : p ≠ w1.heap.size := by have := HK1.out.lt; omega
        have hpq' : w1.heap.size ≠ p := Ne.symm hpq
        have hqs : w.heap.size ≤ w1.heap.size := HB1.out.size
        clear hb2
        have c0 : w2.cell? ⟨p, 0, none⟩ = some (.int .i64 0) := HK2.out.cell 0 rfl
        have c1 : w2.cell? ⟨p, 1, none⟩ = some (.int .i64 0) := HK2.out.cell 1 rfl
        have f0 := HK2.out.free 0
        have f1 := HK2.out.free 1
        have l0 := HK2.out.lt
        have l1 : ¬ p = w2.heap.size := by omega
        have l2 : ¬ w2.heap.size = p := by omega
        have x0 : w2.cell? ⟨w1.heap.size, 0, none⟩ = some (.int .i64 v) := HX2.out.cell 0 rfl
        have x1 : w2.cell? ⟨w1.heap.size, 1, none⟩ = some (.int .i64 1) := HX2.out.cell 1 rfl
        have y0 := HX2.out.free 0
        have y1 := HX2.out.free 1
        have y2 := HX2.out.lt
        go_wp2
        refine bodyPost_ret (v := .tuple #[.agg #[.int .i64 0, .int .i64 0], .bool false]) (by simp [results, Tryd.results11, go_sem, *]) rfl ⟨rfl, ?_⟩
        exact bw_setCell (bw_setCell (bw_setCell HB2.out hqs _) (by rw [HP.out]; exact Nat.le_refl _) _) (by rw [HP.out]; exact Nat.le_refl _) _
      · clear hno2
        have HB2 := Lib.hid (bw_call (bw_alloc HB1.out _) hb2)
        have HK2 := Lib.hid ((HK1.out.alloc _).later hb2)
        have HX2 := Lib.hid ((Blk.new w1 #[.int .i64 v, .int .i64 1] 25).later hb2)
        have hpq : p ≠ w1.heap.size := by have := HK1.out.lt; omega
        have hpq' : w1.heap.size ≠ p := Ne.symm hpq
        have hqs : w.heap.size ≤ w1.heap.size := HB1.out.size
        clear hb2
        have c0 : w2.cell? ⟨p, 0, none⟩ = some (.int .i64 0) := HK2.out.cell 0 rfl
        have c1 : w2.cell? ⟨p, 1, none⟩ = some (.int .i64 0) := HK2.out.cell 1 rfl
        have f0 := HK2.out.free 0
        have f1 := HK2.out.free 1
        have l0 := HK2.out.lt
        have l1 : ¬ p = w2.heap.size := by omega
        have l2 : ¬ w2.heap.size = p := by omega
        go_wp2
        refine bodyPost_ret (v := .tuple #[.agg #[.int .i64 0, .int .i64 0], .bool false]) (by simp [results, Tryd.results11, go_sem, *]) rfl ⟨rfl, ?_⟩
        exact bw_setCell (bw_setCell (HB2.out) (by rw [HP.out]; exact Nat.le_refl _) _) (by rw [HP.out]; exact Nat.le_refl _) _
end Go.Proofs.YthkmhpkoanmbkaaDoor

/-
  Contracts of StatesOf: the states behind a number of steps. No condition beyond int64's bounds.
-/
import Derived.Test.YtifigkkghfjhpaaC12
import Derived.Test.YtifigkkghfjhpaaLst
namespace Go.Proofs.Ytifigkkghfjhpaa
open Go.RowKit
set_option linter.unusedVariables false

/-- The first k states behind x. -/
def sts (m f a x : Int) (k : Nat) : List Int := (List.range k).map fun j => it m f a (j + 1) x
theorem sts_len (m f a x : Int) (k : Nat) : (sts m f a x k).length = k := by simp [sts]
theorem sts_succ (m f a x : Int) (k : Nat) : sts m f a x (k + 1) = sts m f a x k ++ [it m f a (k + 1) x] := by simp [sts, List.range_succ]
theorem ns_it {m f a x : Int} (h : nsB m f a x = true) (k : Nat) : nsB m f a (it m f a k x) = true := by
  obtain ⟨h1, h2⟩ := nsB_true h
  have b := vcB_true h1
  have := it_bd (f := f) (a := a) b.1.1 k h2.1 h2.2
  simp [nsB, h1, inR_mk this.1 this.2]
def ssB (m f a x n : Int) : Bool := nsB m f a x && inR n 0 64
def ssL (m f a x n : Int) : List Int := if ssB m f a x n = true then sts m f a x n.toNat else []

theorem l03States_any (m f a x : Int) (N p : Nat) (w : World) (p0 : w.cell? ⟨p, 0, none⟩ = some (.int .i64 m)) (p1 : w.cell? ⟨p, 1, none⟩ = some (.int .i64 f)) (p2 : w.cell? ⟨p, 2, none⟩ = some (.int .i64 a)) (h : nsB m f a x = true) (hN : N ≤ 64) :
    Calls Try.prog 61 #[.pointer (some ⟨p, 0, none⟩), .int .i64 x, .int .i64 N] w (RetL1 (sts m f a x N) w) := by
  have lp := World.block_lt_of_cell? w _ p0
  simp only at lp
  have P0 := Lib.hid p0
  have P1 := Lib.hid p1
  have P2 := Lib.hid p2
  have H := Lib.hid h
  clear p0 p1 p2 h
  go_enter Try.func61, Try.ntmps61
  go_wp2
  go_loopw [1, 2, 7] (fun s n v wr => ∃ k : Nat, k ≤ N ∧ n = .int .i64 ((N : Int) - k) ∧ s = .int .i64 (it m f a k x) ∧ Hid (OwnI .i64 w.heap.size 2 w wr v (sts m f a x k))) (fun _ n _ _ => (intOf n).toNat)
  case atStart => exact ⟨0, Nat.zero_le _, by simp, rfl, Lib.hid (OwnI.made (bw_refl _) (Nat.le_refl _))⟩
  case round =>
    obtain ⟨k, hk, rfl, rfl, ho⟩ := hrel
    by_cases hlt : k < N
    · have c0 := (ho.out.below.cell (p := ⟨p, 0, none⟩) lp).trans P0.out
      have c1 := (ho.out.below.cell (p := ⟨p, 1, none⟩) lp).trans P1.out
      have c2 := (ho.out.below.cell (p := ⟨p, 2, none⟩) lp).trans P2.out
      have HV := Lib.hid (ns_it H.out k)
      have HL := Lib.hid (show (sts m f a x k).length < 1000000000000 by rw [sts_len]; omega)
      have HS := Lib.hid (sts_succ m f a x k)
      go_wp2_with fail
      refine (l03Step_any m f a _ _ _ c0 c1 c2 HV.out).mono ?_
      rintro e w1 ⟨rfl, n, rfl⟩
      have HO := Lib.hid (ho.out.drewN n)
      clear c0 c1 c2
      go_wp2_with (at_builtin; refine wpApp tI rfl _ _ rfl rfl HO.out rfl (by decide) HL.out ?_; intro v' w2 hown1)
      go_roundw
      case rel => exact ⟨k + 1, by omega, by go_num, rfl, Lib.hid (by rw [HS.out]; exact hown1)⟩
      case measure => simp [intOf]; omega
    · have hke : k = N := by omega
      subst hke
      obtain ⟨a', c', hv, hh⟩ := ho.out.hasL
      have HB := Lib.hid ho.out.below
      have HH := Lib.hid hh
      have HV := Lib.hid hv
      clear hh hv
      go_wp2
      go_ret
      exact ⟨a', c', by rw [← HV.out]; rfl, HH.out, HB.out⟩
theorem sStatesOf_any (m f a x n : Int) (w : World) :
    Calls Try.prog 27 #[.agg #[.int .i64 m, .int .i64 f, .int .i64 a], .int .i64 x, .int .i64 n] w (RetL (ssL m f a x n) (ssB m f a x n) w) := by
  cases h1 : nsB m f a x with
  | false =>
    have e1 : ssB m f a x n = false := by simp [ssB, h1]
    have e2 : ssL m f a x n = [] := by simp [ssL, e1]
    rw [e1, e2]; clear e1 e2
    go_enter Try.func27, Try.ntmps27
    go_wp2_with (go_at_call 52; refine (l03Both_any m f a x _ _ (by simp) (by simp) (by simp)).mono ?_; rintro e w' ⟨rfl, k, rfl⟩)
    go_ret2
    exact ⟨none, 0, rfl, HasL.nil _ _ _ _, bw_drewN (bw_alloc (bw_refl _) _) _⟩
  | true =>
    cases h2 : inR n 0 64 with
    | false =>
      have e1 : ssB m f a x n = false := by simp [ssB, h2]
      have e2 : ssL m f a x n = [] := by simp [ssL, e1]
      rw [e1, e2]; clear e1 e2
      go_enter Try.func27, Try.ntmps27
      go_wp2_with (first | (go_at_call 52; refine (l03Both_any m f a x _ _ (by simp) (by simp) (by simp)).mono ?_; rintro e w' ⟨rfl, k, rfl⟩) | (go_at_call 47; refine (l00In_of h2 _).mono ?_; rintro e w' ⟨rfl, rfl⟩))
      go_ret2
      exact ⟨none, 0, rfl, HasL.nil _ _ _ _, bw_drewN (bw_alloc (bw_refl _) _) _⟩
    | true =>
      have b2 := inR_true h2
      have e1 : ssB m f a x n = true := by simp [ssB, h1, h2]
      have e2 : ssL m f a x n = sts m f a x n.toNat := by simp [ssL, e1]
      rw [e1, e2]; clear e1 e2
      obtain ⟨N, rfl⟩ := Int.eq_ofNat_of_zero_le b2.1
      rw [Int.toNat_natCast]
      have H1 := h1
      go_enter Try.func27, Try.ntmps27
      go_wp2_with (first | (go_at_call 52; refine (l03Both_any m f a x _ _ (by simp) (by simp) (by simp)).mono ?_; rintro e w' ⟨rfl, k, rfl⟩) | (go_at_call 47; refine (l00In_of h2 _).mono ?_; rintro e w' ⟨rfl, rfl⟩))
      refine (l03States_any m f a x N _ _ (by simp) (by simp) (by simp) H1 (by omega)).mono ?_
      rintro e w1 ⟨a1, c1, rfl, hl, hb⟩
      go_wp2
      go_ret2
      exact ⟨a1, c1, rfl, hl.mono (by simp), bw_call (bw_drewN (bw_alloc (bw_refl _) _) _) hb⟩
theorem StatesOf_any (m f a x n : Int) (w : World) :
    Calls Try.prog 28 #[.agg #[.int .i64 m, .int .i64 f, .int .i64 a], .int .i64 x, .int .i64 n] w (RetL (ssL m f a x n) (ssB m f a x n) w) := by
  cases h1 : nsB m f a x with
  | false =>
    have e1 : ssB m f a x n = false := by simp [ssB, h1]
    have e2 : ssL m f a x n = [] := by simp [ssL, e1]
    rw [e1, e2]; clear e1 e2
    go_enter Try.func28, Try.ntmps28
    go_wp2_with fail
    refine (isState_any m f a x _).mono ?_
    rintro e w1 ⟨rfl, hb1⟩
    go_wp2
    go_ret2
    exact ⟨none, 0, rfl, HasL.nil _ _ _ _, bw_call (bw_alloc (bw_refl _) _) hb1⟩
  | true =>
    cases h2 : inR n 0 64 with
    | false =>
      have e1 : ssB m f a x n = false := by simp [ssB, h2]
      have e2 : ssL m f a x n = [] := by simp [ssL, e1]
      rw [e1, e2]; clear e1 e2
      go_enter Try.func28, Try.ntmps28
      go_wp2_with fail
      refine (isState_any m f a x _).mono ?_
      rintro e w1 ⟨rfl, hb1⟩
      go_wp2_with (go_at_call 49; refine (inRange_of h2 _).mono ?_; rintro e w' ⟨rfl, rfl⟩)
      go_ret2
      exact ⟨none, 0, rfl, HasL.nil _ _ _ _, bw_call (bw_alloc (bw_refl _) _) hb1⟩
    | true =>
      have b2 := inR_true h2
      have e1 : ssB m f a x n = true := by simp [ssB, h1, h2]
      have e2 : ssL m f a x n = sts m f a x n.toNat := by simp [ssL, e1]
      rw [e1, e2]; clear e1 e2
      obtain ⟨N, rfl⟩ := Int.eq_ofNat_of_zero_le b2.1
      rw [Int.toNat_natCast]
      have H := Lib.hid h1
      go_enter Try.func28, Try.ntmps28
      go_wp2_with fail
      refine (isState_any m f a x _).mono ?_
      rintro e w1 ⟨rfl, hb1⟩
      have hA := Lib.hid ((Blk.new w (cgr m f a) 33).later hb1)
      have hW := Lib.hid (bw_call (bw_alloc (bw_refl w) (.cells (cgr m f a) 33)) hb1)
      have lA := hA.out.lt
      have lW := hW.out.size
      clear hb1
      go_wp2_with (go_at_call 49; refine (inRange_of h2 _).mono ?_; rintro e w' ⟨rfl, rfl⟩)
      clear h1 h2
      go_loopw [1, 8, 20] (fun s v i wr => ∃ k : Nat, k ≤ N ∧ i = .int .i64 k ∧ s = .int .i64 (it m f a k x) ∧ Hid (OwnI .i64 (w.heap.size + 1) 2 w1 wr v (sts m f a x k))) (fun _ _ i _ => N - (intOf i).toNat)
      case atStart => exact ⟨0, Nat.zero_le _, rfl, rfl, Lib.hid (OwnI.made (Below.refl _ _) (by omega))⟩
      case round =>
        obtain ⟨k, hk, rfl, rfl, ho⟩ := hrel
        by_cases hlt : k < N
        · have hA2 : Blk wr w.heap.size (cgr m f a) 33 := (ho.out.below.block w.heap.size (by omega)).trans hA.out
          obtain ⟨c0, c1, c2, _, _, _⟩ := cgr_cells hA2
          clear hA2
          have HV := Lib.hid (ns_it H.out k)
          have HL := Lib.hid (show (sts m f a x k).length < 1000000000000 by rw [sts_len]; omega)
          have HS := Lib.hid (sts_succ m f a x k)
          go_wp2_with fail
          refine (step_any m f a _ _ HV.out).mono ?_
          rintro e w2 ⟨rfl, hb2⟩
          have HO := Lib.hid (ho.out.later hb2)
          clear c0 c1 c2 hb2
          go_wp2_with (at_builtin; refine wpApp tI rfl _ _ rfl rfl HO.out rfl (by decide) HL.out ?_; intro v' w3 hown1)
          go_roundw
          case rel => exact ⟨k + 1, by omega, by go_num, rfl, Lib.hid (by rw [HS.out]; exact hown1)⟩
          case measure => simp [intOf]; omega
        · have hke : k = N := by omega
          subst hke
          obtain ⟨a', c', hv, hh⟩ := ho.out.hasL
          have HB := Lib.hid ho.out.below
          have HH := Lib.hid hh
          have HV := Lib.hid hv
          clear hh hv
          go_wp2
          go_ret2
          exact ⟨a', c', by rw [← HV.out]; rfl, HH.out.mono (by omega), hW.out.trans (HB.out.mono (by omega))⟩
end Go.Proofs.Ytifigkkghfjhpaa

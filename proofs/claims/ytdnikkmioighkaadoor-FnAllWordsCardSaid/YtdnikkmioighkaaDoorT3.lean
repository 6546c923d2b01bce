/-
  Contracts of the program's step with a table (a closure) and of cycleFrom. Conditions: the table is valid, the variables that the closure has captured lie as they do.
-/
import Derived.Test.YtdnikkmioighkaaDoorT2
import Derived.Test.YtdnikkmioighkaaDoorBlk
import Derived.Test.YtdnikkmioighkaaDoorLs2
namespace Go.Proofs.YtdnikkmioighkaaDoor
open Go.RowKit
set_option linter.unusedVariables false

/-- The closure's variables. -/
structure StepAt (w : World) (p q : Nat) (W : Nat) (s : ByteArray) : Prop where
  wd : w.cell? ⟨p, 0, none⟩ = some (.int .i64 W)
  tb : w.cell? ⟨q, 0, none⟩ = some (.string s)
theorem StepAt.later {w w' : World} {p q W : Nat} {s : ByteArray} (h : StepAt w p q W s) (hb : Below w.heap.size w w') : StepAt w' p q W s :=
  ⟨(hb.cell (p := ⟨p, 0, none⟩) (World.block_lt_of_cell? w _ h.wd)).trans h.wd, (hb.cell (p := ⟨q, 0, none⟩) (World.block_lt_of_cell? w _ h.tb)).trans h.tb⟩
theorem StepAt.under {w w' : World} {p q W B : Nat} {s : ByteArray} (h : StepAt w p q W s) (hb : Below B w w') (hp : p < B) (hq : q < B) : StepAt w' p q W s :=
  ⟨(hb.cell (p := ⟨p, 0, none⟩) hp).trans h.wd, (hb.cell (p := ⟨q, 0, none⟩) hq).trans h.tb⟩
theorem step_any (s : ByteArray) (W x p q : Nat) (w : World) (h : StepAt w p q W s) (hb : BitsTo s s.size) (hW : W ≤ 6) (hs : s.size = 2 ^ W) (hx : x < s.size) :
    Calls Tryd.prog 19 #[.int .i64 x, .pointer (some ⟨p, 0, none⟩), .pointer (some ⟨q, 0, none⟩)] w fun e w' => e = .returned (.int .i64 (tf s W x : Nat)) ∧ ∃ n, w' = w.drewN n := by
  obtain ⟨c0, c1⟩ := h
  by_cases h0 : W = 0
  · subst h0
    have e : tf s 0 x = 0 := by simp [tf]
    rw [e]; clear e
    go_enter Tryd.func19, Tryd.ntmps19
    go_wp2
    go_ret
    exact ⟨rfl, 0, rfl⟩
  · have hbb := byte_bit hb hx
    have hb1 := (bitN_byt hb hx).2
    have hp : s.size ≤ 64 := by rw [hs]; exact Nat.le_trans (Nat.pow_le_pow_right (by decide) hW) (by decide)
    have HE : Hid (tf s W x = x / 2 ||| bitN s x * 2 ^ (W - 1)) := Lib.hid (by rw [tf, if_neg h0])
    obtain ⟨b, HBt⟩ : ∃ b, Hid (bitN s x = b) := ⟨_, Lib.hid rfl⟩
    rw [HBt.out] at hbb hb1 HE
    obtain ⟨V, rfl⟩ : ∃ V, W = V + 1 := ⟨W - 1, by omega⟩
    have hm : b * 2 ^ V ≤ 1 * 2 ^ V := Nat.mul_le_mul_right _ hb1
    have hp2 : 2 ^ V ≤ 2 ^ 6 := Nat.pow_le_pow_right (by decide) (by omega)
    have p6 : (2 : Nat) ^ 6 = 64 := by decide
    rw [p6] at hp2
    have hm3 : b * 2 ^ V < 9223372036854775808 := by omega
    have hsl := shl_nat hm3
    have hor := i64_or_nat (x / 2) (b * 2 ^ V) (by omega) hm3
    have hdv : (x : Int) / 2 = ((x / 2 : Nat) : Int) := by omega
    rw [show V + 1 - 1 = V from rfl] at HE
    obtain ⟨y, HY⟩ : ∃ y, Hid (x / 2 = y) := ⟨_, Lib.hid rfl⟩
    rw [HY.out] at hor hdv HE
    obtain ⟨z, HZ⟩ : ∃ z, Hid (b * 2 ^ V = z) := ⟨_, Lib.hid rfl⟩
    rw [HZ.out] at hsl hor HE
    obtain ⟨U, HU⟩ : ∃ U : Int, Hid (((V + 1 : Nat) : Int) = U) := ⟨_, Lib.hid rfl⟩
    rw [HU.out] at c0
    have hU0 : ¬ U = 0 := by have := HU.out; omega
    have hUb : (U == 0) = false := beq_eq_false_iff_ne.2 hU0
    have hV : IntKind.i64.wrap (U - 1) = (V : Int) := by have := HU.out; rw [IntKind.wrap_i64]; omega
    have hV2 : U - 1 = (V : Int) := by have := HU.out; omega
    have u0 : (0 : Int) ≤ (V : Int) := by omega
    have hxi : (x : Int) < (s.size : Int) := by omega
    rw [HE.out]
    clear h0 hm hm3 hp2 hs p6
    go_enter Tryd.func19, Tryd.ntmps19
    go_wp2
    go_quiet (fail)
    go_wp2
    go_ret
    exact ⟨rfl, _, rfl⟩
/-- The states that have been seen within k steps, each with the step's number from 1 on. -/
structure Seen (f : Nat → Nat) (x k : Nat) (ys : List Int) : Prop where
  has : ∀ j, j < k → ys.getD (jt f j x) 0 = (j : Int) + 1
  none : ∀ z, (∀ j, j < k → jt f j x ≠ z) → ys.getD z 0 = 0
  diff : ∀ i j, i < j → j < k → jt f i x ≠ jt f j x
theorem seen_zero (f : Nat → Nat) (x N : Nat) : Seen f x 0 (List.replicate N 0) :=
  ⟨fun j hj => by omega, fun z _ => by simp only [List.getD, List.getElem?_replicate]; split <;> rfl, fun i j _ hj => by omega⟩
theorem Seen.next {f : Nat → Nat} {x k : Nat} {ys : List Int} (h : Seen f x k ys) (hl : jt f k x < ys.length) (hn : ∀ j, j < k → jt f j x ≠ jt f k x) : Seen f x (k + 1) (ys.set (jt f k x) ((k : Int) + 1)) := by
  have hd : ∀ i j, i < j → j < k + 1 → jt f i x ≠ jt f j x := fun i j h1 h2 => by
    by_cases e : j = k
    · subst e; exact hn i h1
    · exact h.diff i j h1 (by omega)
  refine ⟨fun j hj => ?_, fun z hz => ?_, hd⟩
  · by_cases e : j = k
    · subst e; simp [List.getD, hl]
    · have := h.has j (by omega)
      simp only [List.getD, List.getElem?_set_ne (hn j (by omega)).symm] at this ⊢
      exact this
  · have := h.none z (fun j hj => hz j (by omega))
    simp only [List.getD, List.getElem?_set_ne (hz k (by omega))] at this ⊢
    exact this
theorem Seen.le {f : Nat → Nat} {x k N : Nat} {ys : List Int} (h : Seen f x k ys) (hf : ∀ x, x < N → f x < N) (hx : x < N) : k ≤ N := by
  apply Nat.le_of_not_lt
  intro c
  obtain ⟨i, j, hij, hj, he⟩ := pigeon N (fun i => jt f i x) (fun i _ => jt_lt hf hx i)
  exact h.diff i j hij (by omega) he
theorem Seen.found {f : Nat → Nat} {x k j : Nat} {ys : List Int} (h : Seen f x k ys) (hj : j < k) (he : jt f j x = jt f k x) : BP f x j (k - j) :=
  ⟨by omega, by rw [show j + (k - j) = k by omega]; exact he.symm, fun i i' h1 h2 => h.diff i i' h1 (by omega)⟩
/-- What cycleFrom hands back. -/
def CycR (f : Nat → Nat) (x : Nat) (w : World) (e : Ending) (w' : World) : Prop :=
  ∃ b p : Nat, BP f x b p ∧ e = .returned (.tuple #[.int .i64 b, .int .i64 p]) ∧ Below w.heap.size w w'
set_option maxHeartbeats 1000000 in
set_option maxRecDepth 100000 in
theorem cycleFrom_any (s : ByteArray) (W x p q : Nat) (w : World) (h : StepAt w p q W s) (hb : BitsTo s s.size) (hW : W ≤ 6) (hs : s.size = 2 ^ W) (hx : x < s.size) :
    Calls Tryd.prog 20 #[.int .i64 s.size, .int .i64 x, .func (Fn.func 19) #[] #[.pointer (some ⟨p, 0, none⟩), .pointer (some ⟨q, 0, none⟩)]] w (CycR (tf s W) x w) := by
  have hn64 : s.size ≤ 64 := by rw [hs]; exact Nat.le_trans (Nat.pow_le_pow_right (by decide) hW) (by decide)
  have HF : Hid (∀ x, x < s.size → tf s W x < s.size) := Lib.hid (by rw [hs]; exact tf_lt hb hs)
  have HS := Lib.hid h
  have hc := fun (x : Nat) (w : World) h (hx : x < s.size) => step_any s W x p q w h hb hW hs hx
  obtain ⟨f, Hf⟩ : ∃ f, Hid (tf s W = f) := ⟨_, Lib.hid rfl⟩
  rw [Hf.out] at HF ⊢
  simp only [Hf.out] at hc
  have HCl := Lib.hid hc
  clear h hb hs hc
  obtain ⟨N, HN⟩ : ∃ N, Hid (s.size = N) := ⟨_, Lib.hid rfl⟩
  rw [HN.out] at hn64 HF hx ⊢
  have HC : Hid (∀ (x : Nat) (w : World), StepAt w p q W s → x < N → Calls Tryd.prog 19 #[.int .i64 x, .pointer (some ⟨p, 0, none⟩), .pointer (some ⟨q, 0, none⟩)] w fun e w' => e = .returned (.int .i64 (f x : Nat)) ∧ ∃ n, w' = w.drewN n) := Lib.hid (by rw [← HN.out]; exact HCl.out)
  clear HCl
  go_enter Tryd.func20, Tryd.ntmps20
  go_wp2_with (at_make; refine wpMake tI rfl _ _ rfl N rfl rfl rfl rfl (by decide) (by omega) ?_; intro w1 hown)
  have HO := Lib.hid hown
  clear hown
  go_loopw [1, 9] (fun st cn wr => ∃ (k x' : Nat) (ys : List Int), k ≤ N ∧ x' < N ∧ st = .int .i64 x' ∧ cn = .int .i64 (k + 1 : Nat) ∧ Hid (x' = jt f k x) ∧ Hid (Seen f x k ys) ∧ Hid (ys.length = N) ∧ Hid (OwnI .i64 w.heap.size 2 w wr (.slice (some ⟨w.heap.size, 0, none⟩) N N) ys)) (fun _ cn _ => N + 2 - (intOf cn).toNat)
  case atStart => exact ⟨0, x, _, Nat.zero_le _, hx, rfl, rfl, Lib.hid rfl, Lib.hid (seen_zero f x N), Lib.hid (by simp), HO⟩
  case round =>
    obtain ⟨k, x', ys, hk, hx', rfl, rfl, hj, hsn, hl, ho⟩ := hrel
    have hxl : x' < ys.length := by rw [hl.out]; exact hx'
    obtain ⟨g', cap', hv, _, _, _, _, h5, h6⟩ := ho.out.cell
    simp only [Value.slice.injEq, Option.some.injEq, Addr.mk.injEq, and_true] at hv
    obtain ⟨hg', hvl, hc'⟩ := hv
    subst hg'
    clear hvl hc'
    have q1 := h5 x' hxl
    have q2 := h6 x'
    clear h5 h6
    by_cases hf : ∃ j, j < k ∧ jt f j x = jt f k x
    · obtain ⟨j, hjk, hje⟩ := hf
      have hy : ys.getD x' 0 = (j : Int) + 1 := by rw [hj.out, ← hje]; exact hsn.out.has j hjk
      have HBP := Lib.hid (hsn.out.found hjk hje)
      obtain ⟨bq, HQ⟩ : ∃ bq : Int, Hid (ys.getD x' 0 = bq) := ⟨_, Lib.hid rfl⟩
      rw [HQ.out] at q1 hy
      obtain ⟨v, HV⟩ : ∃ v, Hid (k + 1 = v) := ⟨_, Lib.hid rfl⟩
      rw [HV.out]
      have hv := HV.out
      have b0 : 0 < bq := by omega
      have b1 : bq ≤ 100 := by omega
      have v1 : v ≤ 100 := by omega
      have HE1 : Hid (bq - 1 = (j : Int)) := Lib.hid (by omega)
      have HE2 : Hid ((v : Int) - bq = ((k - j : Nat) : Int)) := Lib.hid (by omega)
      have HBl := Lib.hid ho.out.below
      clear hje hy hv
      go_wp2
      go_ret2
      refine ⟨j, k - j, HBP.out, ?_, HBl.out⟩
      show Ending.returned (.tuple #[.int .i64 (bq - 1), .int .i64 ((v : Int) - bq)]) = _
      rw [HE1.out, HE2.out]
    · have hno : ∀ j, j < k → jt f j x ≠ jt f k x := fun j h1 h2 => hf ⟨j, h1, h2⟩
      have hy : ys.getD x' 0 = 0 := by rw [hj.out]; exact hsn.out.none _ hno
      rw [hy] at q1
      have hnx := hsn.out.next (by rw [← hj.out]; exact hxl) hno
      rw [← hj.out] at hnx
      have hk1 : k + 1 ≤ N := hnx.le HF.out hx
      have HNx : Hid (Seen f x (k + 1) (ys.set x' ((k + 1 : Nat) : Int))) := Lib.hid (by rw [show ((k + 1 : Nat) : Int) = (k : Int) + 1 by omega]; exact hnx)
      have HX : Hid (f x' = jt f (k + 1) x) := Lib.hid (by rw [jt, ← hj.out])
      have hfx := HF.out x' hx'
      have hst : Hid (OwnI .i64 w.heap.size 2 w (wr.setCell ⟨w.heap.size, x', none⟩ (.int .i64 ((k + 1 : Nat) : Int))) (.slice (some ⟨w.heap.size, 0, none⟩) N N) (ys.set x' ((k + 1 : Nat) : Int))) := by
        have h7 := ho.out
        have e := hl.out
        rw [show (Value.slice (some (⟨w.heap.size, 0, none⟩ : Addr)) N N) = .slice (some ⟨w.heap.size, 0, none⟩) ys.length N by rw [e]] at h7 ⊢
        exact Lib.hid (h7.stored x' _)
      have hl2 : Hid ((ys.set x' ((k + 1 : Nat) : Int)).length = N) := Lib.hid (by rw [List.length_set, hl.out])
      have HSt : Hid (StepAt (wr.setCell ⟨w.heap.size, x', none⟩ (.int .i64 ((k + 1 : Nat) : Int))) p q W s) := Lib.hid (HS.out.later hst.out.below)
      obtain ⟨y, HY⟩ : ∃ y, Hid (f x' = y) := ⟨_, Lib.hid rfl⟩
      have hcc := fun w1 h => HC.out x' w1 h hx'
      simp only [HY.out] at hcc
      rw [HY.out] at HX hfx
      obtain ⟨v, HV⟩ : ∃ v, Hid (k + 1 = v) := ⟨_, Lib.hid rfl⟩
      rw [HV.out] at HNx hst hl2 HSt HX hk1 ⊢
      have hv1 : 1 ≤ v := by have := HV.out; omega
      clear hf hno hy hnx
      go_wp2_with (go_at_call 19; refine (hcc _ HSt.out).mono ?_; rintro e w2 ⟨rfl, n, rfl⟩)
      go_roundw
      case rel => exact ⟨v, y, ys.set x' (v : Int), hk1, hfx, rfl, by go_num, HX, HNx, hl2, Lib.hid (hst.out.drewN _)⟩
      case measure => simp [intOf]; omega
end Go.Proofs.YtdnikkmioighkaaDoor

/-
  Contract of ShortestWave. Conditions: a valid congruence, two or three elements.
-/
import Derived.Test.YthkgaldpajnjgaaP7
import Derived.Test.YthkgaldpajnjgaaP8
namespace Go.Proofs.Ythkgaldpajnjgaa
open Go.RowKit
set_option linter.unusedVariables false

/-- No wave of those that the search tries is shorter. -/
def LeastWv (K : Nat) (m f : Int) (ys : List Int) : Prop := ∀ x xs, xs.length = K → Tried m f x xs → Pos (x :: xs) → sqs ys ≤ x * x + sqs xs
theorem LeastWv.of {K : Nat} {m f B : Int} {ys : List Int} (h : WCov m f B [] K (some ys)) (hB : sqs ys ≤ B * B) : LeastWv K m f ys := fun x xs h1 h2 h3 => by
  by_cases hle : sqs xs + x * x ≤ B * B
  · obtain ⟨zs, e, hz⟩ := h xs h1 x h2 hle h3
    cases e
    simpa using hz
  · omega
theorem wv_zeros (m f : Int) : ∀ (k : Nat) (s : Int × Int), s.2 = 0 → ((List.replicate k (0 : Int)).foldl (wst m f) s).2 = 0
  | 0, s, h => h
  | k + 1, s, h => by
    rw [List.replicate_succ, List.foldl_cons]
    exact wv_zeros m f k _ (by simp [wst, h])
theorem sqs_zeros : ∀ k : Nat, sqs (List.replicate k 0) = 0
  | 0 => rfl
  | k + 1 => by rw [List.replicate_succ]; simp only [sqs, sqs_zeros k]; rfl
theorem found_late {K : Nat} {m f B : Int} (hm : 2 ≤ m) (h : WCov m f B [] K none) (hB : 1 ≤ B) : B < m := by
  refine Int.not_le.1 fun hc => ?_
  have e0 : (wv m f (List.replicate K 0)).2 = 0 := wv_zeros m f K (f, 0) rfl
  have e1 : wf m f (List.replicate K 0) = 0 := by unfold wf; rw [e0]; simp
  have hT : Tried m f m ([] ++ List.replicate K 0) := .inr (.inr (by simp [e1]))
  have hmm : m * m ≤ B * B := Int.mul_le_mul hc hc (by omega) (by omega)
  obtain ⟨ys, e, _⟩ := h (List.replicate K 0) List.length_replicate m hT (by rw [List.nil_append, sqs_zeros]; omega) ⟨0, by simp, by show 0 < m; omega, fun j hj => by omega⟩
  cases e
theorem twice_left {B : Int} (h : 1 ≤ B) (h2 : B < 100000) : (200001 - B * 2).toNat < (200001 - B).toNat := by omega
set_option maxHeartbeats 4000000 in
set_option maxRecDepth 100000 in
theorem ShortestWave_any (m f a : Int) (hv : vcB m f a = true) (dim : Nat) (hd : dim = 2 ∨ dim = 3) (w : World) :
    Calls Try.prog 8 #[.agg #[.int .i64 m, .int .i64 f, .int .i64 a], .int .i64 dim] w fun e w' => ∃ g cap x xs, e = .returned (.tuple #[.slice (some ⟨g, 0, none⟩) dim cap, .int .i64 (sqs (x :: xs)), .bool true]) ∧ HasL w.heap.size w' (some ⟨g, 0, none⟩) cap (x :: xs) ∧ xs.length + 1 = dim ∧ IsWv m f x xs ∧ Pos (x :: xs) ∧ sqs (x :: xs) ≤ 40000000000 ∧ LeastWv (dim - 1) m f (x :: xs) ∧ Below w.heap.size w w' := by
  obtain ⟨m1, m2, m3⟩ := vcB_true hv
  have hdr : inR dim 2 4 = true := by rcases hd with rfl | rfl <;> rfl
  have hVC := fun w => ValidCongruence_any m f a w
  rw [hv] at hVC
  have hIR := fun w => inRange_of hdr w
  have HWv : Hid (∀ (p : Nat) (B : Int) (w : World), 1 ≤ B → B ≤ 200000 → BsAt w p none →
      Calls Try.prog 17 #[.pointer (some ⟨p, 0, none⟩), .agg #[.int .i64 m, .int .i64 f, .int .i64 a], .int .i64 (dim : Nat), .slice none 0 0, .int .i64 0, .int .i64 0, .int .i64 f, .int .i64 B] w fun e w' => e = .returned (.tuple #[]) ∧ ∃ best', FoundW p (dim - 1) m f B none w w' best' ∧ WCov m f B [] (dim - 1) best') := Lib.hid (by
    intro p B w hB1 hB2 hb
    exact waves_any m f a hv (dim - 1) dim p (by omega) (by omega) (by omega) B hB1 hB2 (dim - 1) 0 [] none 0 none w (by omega) rfl (HasL.nil _ _ _ _) (fun _ => ⟨rfl, rfl⟩) (by have := sq_nonneg B; simpa [sqs] using this) hb (GoodW.none _ _ _ _))
  have HDm := Lib.hid hd
  have q22 := fun (w : World) (a : Option Addr) (n c n' c' : Nat) => run_neq_slice_nil_any (P := Try.prog) w 29 2 a n c n' c' tI.under
  clear hv hdr hd
  obtain ⟨q, hq⟩ : ∃ q, w.heap.size = q := ⟨_, rfl⟩
  obtain ⟨w0, hw0⟩ : ∃ w0, w.alloc (.cells #[.int .i64 m, .int .i64 f, .int .i64 a] 25) = w0 := ⟨_, rfl⟩
  have HQ : Hid (Blk w0 q (cgr m f a) 25) := Lib.hid (by rw [← hw0]; exact Blk.new' hq _ _)
  have HB0 : Hid (Below w.heap.size w w0) := Lib.hid (by rw [← hw0]; exact bw_alloc (bw_refl w) _)
  obtain ⟨c0, c1, c2, c3⟩ := cgr_cells HQ.out
  clear c3
  rw [hq]
  go_enter Try.func8, Try.ntmps8
  go_upto_region 3 with (first
    | (go_at_call 13; (with_reducible refine (hVC _).mono ?_); rintro e w1 ⟨rfl, hb1⟩)
    | (go_at_call 14; (with_reducible refine (hIR _).mono ?_); rintro e w2 ⟨rfl, rfl⟩))
  clear c0 c1 c2 hVC hIR hw0
  have HQ1 := Lib.hid (HQ.out.later hb1)
  have HB1 := Lib.hid (bw_call HB0.out hb1)
  clear hb1 HQ HB0
  go_wp2
  go_loopw [7, 8] (fun Bv _ wr => ∃ B : Int, Bv = .int .i64 B ∧ 1 ≤ B ∧ B ≤ 200000 ∧ Hid (Blk wr q (cgr m f a) 25) ∧ Hid (Below w.heap.size w wr)) (fun Bv _ _ => (200001 - intOf Bv).toNat)
  case atStart => exact ⟨1, rfl, by omega, by omega, HQ1, HB1⟩
  case round =>
    obtain ⟨B, rfl, b0, b1, hQ, hB⟩ := hrel
    obtain ⟨p, hp⟩ : ∃ p, wr.heap.size = p := ⟨_, rfl⟩
    obtain ⟨w3, hw3⟩ : ∃ w3, wr.alloc (.cells #[.slice none 0 0, .int .i64 0] 41) = w3 := ⟨_, rfl⟩
    have HS3 : Hid (BsAt w3 p none) := Lib.hid (by rw [← hw3]; exact Blk.new' hp _ _)
    have HQ3 : Hid (Blk w3 q (cgr m f a) 25) := Lib.hid (by rw [← hw3]; exact hQ.out.alloc _)
    have HB3 : Hid (Below w.heap.size w w3) := Lib.hid (by rw [← hw3]; exact bw_alloc hB.out _)
    have hqp : q < p := by rw [← hp]; exact hQ.out.lt
    obtain ⟨c0, c1, c2, c3⟩ := cgr_cells HQ3.out
    clear c3
    have hwv := HWv.out p B w3 b0 b1 HS3.out
    go_wp2_with fail
    clear c0 c1 c2 hw3 hp
    refine hwv.mono ?_
    rintro e w4 ⟨rfl, best', hf, hc⟩
    have HQ4 : Hid (Blk w4 q (cgr m f a) 25) := Lib.hid ((hf.2.2.2.block q HQ3.out.lt (by omega)).trans HQ3.out)
    have HB4 : Hid (Below w.heap.size w w4) := Lib.hid (HB3.out.trans (hf.2.2.2.below (by omega) HB3.out.size))
    clear hwv
    cases best' with
    | none =>
      have hlt := found_late m1.1 hc b0
      have hblk : Blk w4 p #[.slice none 0 0, .int .i64 0] 41 := hf.1
      have k0 := hblk.cell 0 rfl
      clear hf hc hblk
      go_wp2
      go_roundw
      case rel => exact ⟨B * 2, rfl, by omega, by omega, HQ4, HB4⟩
      case measure => exact twice_left b0 (by omega)
    | some ys =>
      obtain ⟨x, xs, rfl, hl, hw, hP, hs⟩ := hf.2.1 _ rfl
      have HLW := Lib.hid (LeastWv.of hc hs)
      have hBB : B * B ≤ 200000 * 200000 := Int.mul_le_mul b1 b1 (by omega) (by omega)
      have HF := Lib.hid (And.intro hl (And.intro hw (And.intro hP (show sqs (x :: xs) ≤ 40000000000 by omega))))
      obtain ⟨gy, cy, k0, k1, hy⟩ := hf.1.cells
      have HY := Lib.hid hy
      have hll : (x :: xs).length = dim := by have := HDm.out; simp only [List.length_cons]; omega
      rw [hll] at k0
      obtain ⟨Bv, hBd⟩ : ∃ Bv, Hid (sqs (x :: xs) = Bv) := ⟨_, Lib.hid rfl⟩
      rw [hBd.out] at k1
      clear hf hc hl hw hP hs hy hBB hll
      go_wp2
      go_quiet (fail)
      go_wp2
      go_ret3
      exact ⟨gy, cy, x, xs, by rw [hBd.out]; rfl, (HY.out.mono (by omega)).later (by first | exact bw_drewN (bw_refl _) _ | exact bw_drew (bw_refl _) | exact bw_refl _), by have := HF.out.1; have := HDm.out; omega, HF.out.2.1, HF.out.2.2.1, HF.out.2.2.2, HLW.out, by rw [← hq]; first | exact bw_drewN HB4.out _ | exact bw_drew HB4.out | exact HB4.out⟩
end Go.Proofs.Ythkgaldpajnjgaa

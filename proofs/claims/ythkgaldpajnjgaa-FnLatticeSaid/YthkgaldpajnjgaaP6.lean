/-
  Contract of shortestList's waves: the search through the waves whose further elements begin with given ones. Conditions: a valid congruence; the bound is at most 200000.
-/
import Derived.Test.YthkgaldpajnjgaaM31
import Derived.Test.YthkgaldpajnjgaaP3
import Derived.Test.YthkgaldpajnjgaaP5
namespace Go.Proofs.Ythkgaldpajnjgaa
open Go.RowKit
set_option linter.unusedVariables false

/-- As OwnI, the slice may be nil. -/
def OwnZ (k : IntKind) (base e : Nat) (W w : World) (v : Value) (xs : List Int) : Prop :=
  w.ownsRow base e 1 v xs.length (xs.map (Value.int k)) ∧ Below base W w ∧ base ≤ w.heap.size
theorem OwnZ.below {k : IntKind} {base e : Nat} {W w : World} {v : Value} {xs : List Int} (h : OwnZ k base e W w v xs) : Below base W w := h.2.1
theorem OwnZ.alloc {k : IntKind} {base e : Nat} {W w : World} {v : Value} {xs : List Int} (h : OwnZ k base e W w v xs) (o : Obj) : OwnZ k base e W (w.alloc o) v xs := by
  have hb : Below w.heap.size w (w.alloc o) := bw_alloc (bw_refl _) o
  exact ⟨h.1.kept (row := none) ⟨hb.os, hb.tape, hb.output, hb.size, fun i hi _ => hb.block i hi⟩ (by cases hv : v.ownBlock <;> simp), h.2.1.trans (hb.mono h.2.2), Nat.le_trans h.2.2 hb.size⟩
theorem OwnI.ownZ {k : IntKind} {base e : Nat} {W w : World} {v : Value} {xs : List Int} (h : OwnI k base e W w v xs) : OwnZ k base e W w v xs := ⟨h.1, h.2.1, h.2.2.1⟩
theorem OwnZ.nil (k : IntKind) (e : Nat) (w : World) : OwnZ k w.heap.size e w w (.slice none 0 0) [] := ⟨⟨rfl, .inl ⟨rfl, rfl⟩⟩, bw_refl _, Nat.le_refl _⟩
theorem stepAppZ {P : Program} {t e : TypeId} {k : IntKind} {bytes : Nat} (T : SliceT P t e k bytes) {ops : Array Oper} {o : Oper} {a : Act} {K : Act → World → Prop} {Q : Exit → Act → World → Prop} {E : Prop} (hgd : o.guard = none) (s x : Operand)
    (ho : o.op = .call { callee := .builtin .append, args := #[s, x], argTypes := #[t, t] })
    {base : Nat} {W wr : World} {v : Value} {xs : List Int} {z : Int} {e' bx : Nat} (hs : a.eval s = v) (hown : OwnZ k base e W wr v xs)
    (hx : a.eval x = .slice (some ⟨bx, 0, none⟩) 1 1) (hbx : wr.heap[bx]? = some (.cells #[.int k z] e')) (hb : bytes ≤ 8) (hn : xs.length < 1000000000000) (n : Nat) (hn1 : xs.length + 1 = n)
    (h : ∀ g cap w', OwnI k base e W w' (.slice (some ⟨g, 0, none⟩) n cap) (xs ++ [z]) → K (a.put o.dst (.slice (some ⟨g, 0, none⟩) n cap)) w') :
    if Region.wanted o (yielded ops a.tmps) = true then Oper.wp P o a wr K Q else E := by
  obtain ⟨i, hi, hz0, hz1, hz2⟩ := T.info
  have h1 := hown.1
  refine step_append_lies (P := P) _ hgd s x t ho base e i (.int k 0) 1 bytes T.under hi hz0 hz1 hz2 rfl (by decide) v _ _ hs h1 ⟨bx, 0, none⟩ 1 1 [.int k z] hx rfl ?_ ?_ (by decide) ?_ ?_ ?_ _ rfl ?_
  · exact World.news_of_block (cs := #[.int k z]) (t := e') hbx
  · intro u hu; simp at hu; subst hu; rfl
  · unfold maxLen; omega
  · have : (xs.length + 1) * bytes ≤ 1000000000000 * 8 := Nat.mul_le_mul (by omega) hb
    omega
  · exact hown.2.2
  · intro g cap w' hown' hgrow hat hlt
    subst hn1
    refine h _ _ w' ⟨by simpa using hown', ?_, ?_, g, cap, by simp⟩
    · exact hown.2.1.grown hgrow hown.2.2 fun k' hk' => (h1.lt k' hk').1
    · have h2 := hgrow.size; have h3 := hown.2.2; omega
theorem Inv.far2 {p q : Nat} {m f a : Int} {best best' : Option (List Int)} {n : Nat} {ab : Option Addr} {c : Nat} {xs : List Int} {w w2 w3 : World} (h : Inv p q m f a best n ab c xs w) (hb : Below w.heap.size w w2) (hf : FarI p (p + 1) w2 w3) (hs : BsAt w3 p best') : Inv p q m f a best' n ab c xs w3 := (h.later hb).turn hf hs
theorem tleft {t B : Int} (h : t ≤ B) : (B + 1 - (t + 1)).toNat < (B + 1 - t).toNat := by omega

theorem CloneZ_any (xs : List Int) (n : Nat) (hn : xs.length = n) (a : Option Addr) (c base : Nat) (w : World) (h : HasL base w a c xs) (h0 : n = 0 → a = none ∧ c = 0) (hx : n < 100) :
    Calls Try.prog 24 #[.slice a n c] w fun e w' => ∃ v', e = .returned v' ∧ OwnZ .i64 w.heap.size 2 w w' v' xs := by
  subst hn
  rcases Nat.eq_zero_or_pos xs.length with h1 | h1
  · obtain ⟨rfl, rfl⟩ := h0 h1
    have hx0 : xs = [] := List.eq_nil_of_length_eq_zero h1
    subst hx0
    refine (CloneNil_any w).mono ?_
    rintro e w' ⟨rfl, rfl⟩
    exact ⟨_, rfl, OwnZ.nil _ _ _⟩
  · refine (CloneI_any xs a c base w h h1 (by omega)).mono ?_
    rintro e w' ⟨v', rfl, ho⟩
    exact ⟨v', rfl, ho.ownZ⟩
theorem Concat_n (x : Int) (xs : List Int) (n b g1 : Nat) (ar : Option Addr) (cr base : Nat) (w : World) (hn : xs.length = n) (h0 : 0 < n) (h8 : n ≤ 100)
    (hc0 : w.cell? ⟨b, 0, none⟩ = some (.slice (some ⟨g1, 0, none⟩) 1 1)) (hc1 : w.cell? ⟨b, 1, none⟩ = some (.slice ar n cr)) (hx : w.cell? ⟨g1, 0, none⟩ = some (.int .i64 x)) (hr : HasL base w ar cr xs) :
    Calls Try.prog 26 #[.slice (some ⟨b, 0, none⟩) 2 2] w fun e w' => ∃ g cap, e = .returned (.slice (some ⟨g, 0, none⟩) (n + 1) cap) ∧ OwnI .i64 w.heap.size 2 w w' (.slice (some ⟨g, 0, none⟩) (n + 1) cap) (x :: xs) := by
  refine (Concat_any x xs n b g1 ar cr base w hn h0 h8 hc0 hc1 hx hr).mono ?_
  rintro e w' ⟨v, rfl, ho⟩
  obtain ⟨g, cap, rfl, _⟩ := ho.cell
  subst hn
  exact ⟨g, cap, rfl, ho⟩
theorem offer_n (x : Int) (xs : List Int) (n : Nat) (hn : xs.length = n) (h8 : n ≤ 7) (hs : sqs xs + x * x ≤ 160000000000) (g cap p : Nat) (best : Option (List Int)) (W w : World) (ho : OwnI .i64 W.heap.size 2 W w (.slice (some ⟨g, 0, none⟩) (n + 1) cap) (x :: xs)) (hb : BsAt w p best) :
    Calls Try.prog 15 #[.pointer (some ⟨p, 0, none⟩), .slice (some ⟨g, 0, none⟩) (n + 1) cap] w fun e w' => e = .returned (.tuple #[]) ∧ ∃ best', BsAt w' p best' ∧ Offered best (x :: xs) best' ∧ FarI p (p + 1) w w' := by
  subst hn
  obtain ⟨a', c', hv', hh⟩ := ho.hasL
  simp only [Value.slice.injEq] at hv'
  obtain ⟨rfl, _, rfl⟩ := hv'
  exact offer_any (x :: xs) _ cap _ p best w hh (by simp) (by simp; omega) (small_of (by simp only [sqs]; omega)) hb
/-- What waves says of the best list and of the world behind it. -/
def FoundW (p K : Nat) (m f B : Int) (best : Option (List Int)) (w w' : World) (best' : Option (List Int)) : Prop :=
  BsAt w' p best' ∧ GoodW K m f B best' ∧ Upon best best' ∧ FarI p (p + 1) w w'
set_option maxHeartbeats 4000000 in
set_option maxRecDepth 100000 in
theorem waves_last (m f a : Int) (hv : vcB m f a = true) (K dim p : Nat) (hd : K + 1 = dim) (hK0 : 1 ≤ K) (hK : K ≤ 7) (B : Int) (B1 : 1 ≤ B) (B2 : B ≤ 200000) (xs : List Int) (ab : Option Addr) (c : Nat) (best : Option (List Int)) (w : World) (hlen : xs.length = K) (hl : HasL (p + 1) w ab c xs) (hsq : sqs xs ≤ B * B) (hb : BsAt w p best) (hg : GoodW K m f B best) :
    Calls Try.prog 17 #[.pointer (some ⟨p, 0, none⟩), .agg #[.int .i64 m, .int .i64 f, .int .i64 a], .int .i64 dim, .slice ab K c, .int .i64 (sqs xs), .int .i64 (wv m f xs).2, .int .i64 (wv m f xs).1, .int .i64 B] w fun e w' => e = .returned (.tuple #[]) ∧ ∃ best', FoundW p K m f B best w w' best' ∧ WCov m f B xs 0 best' := by
  obtain ⟨m1, m2, m3⟩ := vcB_true hv
  obtain ⟨p1, s1⟩ := wv_bd m1.1 m2 xs
  have hF := wf_bd (f := f) m1.1 xs
  have hd1 : (dim : Int) - 1 = (K : Int) := by omega
  have hpw := hb.lt
  have hBB : B * B ≤ 200000 * 200000 := Int.mul_le_mul (by omega) (by omega) (by omega) (by omega)
  have hBB0 := sq_nonneg B
  obtain ⟨w1, hw1⟩ : ∃ w1, w.alloc (.cells (cgr m f a) 25) = w1 := ⟨_, rfl⟩
  have hw1' : w.alloc (.cells #[.int .i64 m, .int .i64 f, .int .i64 a] 25) = w1 := hw1
  obtain ⟨q, hq⟩ : ∃ q, w.heap.size = q := ⟨_, rfl⟩
  have HI : Hid (Inv p q m f a best K ab c xs w1) := Lib.hid (by
    rw [← hw1]
    exact ⟨hb.later (bw_alloc (bw_refl w) _), Blk.new' hq _ _, hl.later (bw_alloc (bw_refl w) _), hlen, by omega⟩)
  have HFr : Hid (FarI p (p + 1) w w1) := Lib.hid (by rw [← hw1]; exact FarI.ofBelow (bw_alloc (bw_refl w) _))
  have HG := Lib.hid hg
  have S0 : 0 ≤ sqs xs := sqs_nonneg xs
  have HWC := Lib.hid (fun best h1 h2 h3 => WCov.last (m := m) (f := f) (B := B) (xs := xs) (best := best) h1 h2 h3)
  have HTr0 : Hid (Tried m f (wf m f xs - m) xs) := Lib.hid (.inl rfl)
  have HTr1 : Hid (Tried m f (wf m f xs) xs) := Lib.hid (.inr (.inl rfl))
  have HTr2 : Hid (Tried m f (wf m f xs + m) xs) := Lib.hid (.inr (.inr rfl))
  have hwf : (-(wv m f xs).2) % m = wf m f xs := rfl
  have HOf := Lib.hid (fun x hs g cap best W w ho hb => offer_n x xs K hlen hK hs g cap p best W w ho hb)
  have HCc := Lib.hid (fun x b g1 w h1 h2 h3 h4 => Concat_n x xs K b g1 ab c (p + 1) w hlen (by omega) (by omega) h1 h2 h3 h4)
  have HLn := Lib.hid hlen
  clear hl hb hg hw1 hlen
  obtain ⟨P, hP⟩ : ∃ P, (wv m f xs).1 = P := ⟨_, rfl⟩
  obtain ⟨s, hs⟩ : ∃ s, (wv m f xs).2 = s := ⟨_, rfl⟩
  obtain ⟨F, HF⟩ : ∃ F, Hid (wf m f xs = F) := ⟨_, Lib.hid rfl⟩
  obtain ⟨BB, HB⟩ : ∃ BB, B * B = BB := ⟨_, rfl⟩
  have hb64 : wrap64 BB = BB := IntWalk.wrap64_in _ ⟨by omega, by omega⟩
  have hbI : IntKind.i64.wrap BB = BB := by rw [IntKind.wrap_i64]; omega
  obtain ⟨S, HS⟩ : ∃ S, Hid (sqs xs = S) := ⟨_, Lib.hid rfl⟩
  rw [hs] at s1 hwf ⊢
  rw [hP]
  rw [HB] at hBB hBB0 hsq
  rw [HS.out] at hsq S0 ⊢
  simp only [HF.out] at hF hwf HTr0 HTr1 HTr2 HWC
  have hfm := fun w => floorMod_of (n := -s) (m := m) (r := F) (w := w) (by omega) (by omega) hwf
  obtain ⟨X0, hX0⟩ : ∃ X0, F - m = X0 := ⟨_, rfl⟩
  obtain ⟨X2, hX2⟩ : ∃ X2, F + m = X2 := ⟨_, rfl⟩
  rw [hX0] at HTr0
  rw [hX2] at HTr2
  simp only [hX0, hX2] at HWC
  have hSS : S ≤ 100000000000 := by omega
  have i0 : ∀ w, (Instr.index 54 (.agg #[.int .i64 X0, .int .i64 F, .int .i64 X2]) (.int .i64 0)).run Try.prog w = .ok (.int .i64 X0) w := fun _ => by kernel_rfl
  have i1 : ∀ w, (Instr.index 54 (.agg #[.int .i64 X0, .int .i64 F, .int .i64 X2]) (.int .i64 1)).run Try.prog w = .ok (.int .i64 F) w := fun _ => by kernel_rfl
  have i2 : ∀ w, (Instr.index 54 (.agg #[.int .i64 X0, .int .i64 F, .int .i64 X2]) (.int .i64 2)).run Try.prog w = .ok (.int .i64 X2) w := fun _ => by kernel_rfl
  clear hP hs hwf p1 hd
  go_enter Try.func17, Try.ntmps17
  obtain ⟨c0, c1, c2⟩ := HI.out.cells
  go_wp2_with (go_at_call 25; (with_reducible refine (hfm _).mono ?_); rintro e w' ⟨rfl, rfl⟩)
  clear c0 c1 c2 hfm hw1'
  go_loopw [21, 89] (fun _ i wr => ∃ (k : Nat) (best' : Option (List Int)), i = .int .i64 k ∧ k ≤ 3 ∧ Hid (Inv p q m f a best' K ab c xs wr) ∧ Hid (GoodW K m f B best' ∧ Upon best best' ∧ FarI p (p + 1) w wr) ∧ Hid ((1 ≤ k → WC1 B xs X0 best') ∧ (2 ≤ k → WC1 B xs F best') ∧ (3 ≤ k → WC1 B xs X2 best'))) (fun _ i _ => 3 - (intOf i).toNat)
  case atStart => exact ⟨0, best, rfl, by omega, HI, Lib.hid ⟨HG.out, Upon.refl _, HFr.out⟩, Lib.hid ⟨fun h => by omega, fun h => by omega, fun h => by omega⟩⟩
  case round =>
    obtain ⟨k, best', rfl, hk, hI, hG, hC⟩ := hrel
    obtain ⟨c0, c1, c2⟩ := hI.out.cells
    have hpl := hI.out.bs.lt
    have hk4 : k = 0 ∨ k = 1 ∨ k = 2 ∨ k = 3 := by omega
    rcases hk4 with rfl | rfl | rfl | rfl
    · obtain ⟨q1, sv, e1, e2, e3, e4, e5, e6, e7, e8⟩ := sq_facts (x := X0) (S := S) (by omega) (by omega) S0 hSS
      have HE : Hid (sqs xs + X0 * X0 = sv) := Lib.hid (by rw [HS.out, e1, e2])
      by_cases hle : sv ≤ BB
      · have hCc := HCc.out X0
        have hOf := fun g cap W w ho hb => HOf.out X0 (by rw [HE.out]; omega) g cap best' W w ho hb
        go_wp2_with (first
          | (go_at_call 26; (with_reducible refine (hCc _ wr.heap.size _ (by simp) (by simp) (by simp) (hI.out.list.later (bw_alloc (bw_alloc (bw_refl _) _) _))).mono ?_); rintro e w2 ⟨g2, cap2, rfl, ho2⟩)
          | (go_at_call 15; (with_reducible refine (hOf _ _ _ w2 ho2 ((hI.out.later (bw_call (bw_alloc (bw_alloc (bw_refl _) _) _) ho2.below)).bs)).mono ?_); rintro e w3 ⟨rfl, best2, hb3, hof3, hf3⟩))
        have HB2 := Lib.hid (bw_call (bw_alloc (bw_alloc (bw_refl wr) _) _) ho2.below)
        have HI3 := Lib.hid (hI.out.far2 HB2.out hf3 hb3)
        have HU := Lib.hid hof3
        have HF3 := Lib.hid hf3
        clear ho2 hb3 hof3 hf3 hCc hOf
        go_roundw
        case rel => exact ⟨1, best2, by first | rfl | go_num, by omega, HI3, Lib.hid ⟨HU.out.good hG.out.1 HLn.out HTr0.out (by rw [HE.out, HB]; exact hle), hG.out.2.1.trans HU.out.mono, hG.out.2.2.trans ((FarI.ofBelow HB2.out).trans HF3.out)⟩, Lib.hid ⟨fun _ => HU.out.wc1, fun h => by omega, fun h => by omega⟩⟩
        case measure => simp [intOf]
      · go_wp2
        go_roundw
        case rel => exact ⟨1, best', by first | rfl | go_num, by omega, hI, hG, Lib.hid ⟨fun _ => (WC1.far (by rw [HE.out, HB]; exact hle)), fun h => by omega, fun h => by omega⟩⟩
        case measure => simp [intOf]
    · obtain ⟨q1, sv, e1, e2, e3, e4, e5, e6, e7, e8⟩ := sq_facts (x := F) (S := S) (by omega) (by omega) S0 hSS
      have HE : Hid (sqs xs + F * F = sv) := Lib.hid (by rw [HS.out, e1, e2])
      by_cases hle : sv ≤ BB
      · have hCc := HCc.out F
        have hOf := fun g cap W w ho hb => HOf.out F (by rw [HE.out]; omega) g cap best' W w ho hb
        go_wp2_with (first
          | (go_at_call 26; (with_reducible refine (hCc _ wr.heap.size _ (by simp) (by simp) (by simp) (hI.out.list.later (bw_alloc (bw_alloc (bw_refl _) _) _))).mono ?_); rintro e w2 ⟨g2, cap2, rfl, ho2⟩)
          | (go_at_call 15; (with_reducible refine (hOf _ _ _ w2 ho2 ((hI.out.later (bw_call (bw_alloc (bw_alloc (bw_refl _) _) _) ho2.below)).bs)).mono ?_); rintro e w3 ⟨rfl, best2, hb3, hof3, hf3⟩))
        have HB2 := Lib.hid (bw_call (bw_alloc (bw_alloc (bw_refl wr) _) _) ho2.below)
        have HI3 := Lib.hid (hI.out.far2 HB2.out hf3 hb3)
        have HU := Lib.hid hof3
        have HF3 := Lib.hid hf3
        clear ho2 hb3 hof3 hf3 hCc hOf
        go_roundw
        case rel => exact ⟨2, best2, by first | rfl | go_num, by omega, HI3, Lib.hid ⟨HU.out.good hG.out.1 HLn.out HTr1.out (by rw [HE.out, HB]; exact hle), hG.out.2.1.trans HU.out.mono, hG.out.2.2.trans ((FarI.ofBelow HB2.out).trans HF3.out)⟩, Lib.hid ⟨fun _ => (hC.out.1 (by omega)).mono HU.out.mono, fun _ => HU.out.wc1, fun h => by omega⟩⟩
        case measure => simp [intOf]
      · go_wp2
        go_roundw
        case rel => exact ⟨2, best', by first | rfl | go_num, by omega, hI, hG, Lib.hid ⟨fun _ => hC.out.1 (by omega), fun _ => (WC1.far (by rw [HE.out, HB]; exact hle)), fun h => by omega⟩⟩
        case measure => simp [intOf]
    · obtain ⟨q1, sv, e1, e2, e3, e4, e5, e6, e7, e8⟩ := sq_facts (x := X2) (S := S) (by omega) (by omega) S0 hSS
      have HE : Hid (sqs xs + X2 * X2 = sv) := Lib.hid (by rw [HS.out, e1, e2])
      by_cases hle : sv ≤ BB
      · have hCc := HCc.out X2
        have hOf := fun g cap W w ho hb => HOf.out X2 (by rw [HE.out]; omega) g cap best' W w ho hb
        go_wp2_with (first
          | (go_at_call 26; (with_reducible refine (hCc _ wr.heap.size _ (by simp) (by simp) (by simp) (hI.out.list.later (bw_alloc (bw_alloc (bw_refl _) _) _))).mono ?_); rintro e w2 ⟨g2, cap2, rfl, ho2⟩)
          | (go_at_call 15; (with_reducible refine (hOf _ _ _ w2 ho2 ((hI.out.later (bw_call (bw_alloc (bw_alloc (bw_refl _) _) _) ho2.below)).bs)).mono ?_); rintro e w3 ⟨rfl, best2, hb3, hof3, hf3⟩))
        have HB2 := Lib.hid (bw_call (bw_alloc (bw_alloc (bw_refl wr) _) _) ho2.below)
        have HI3 := Lib.hid (hI.out.far2 HB2.out hf3 hb3)
        have HU := Lib.hid hof3
        have HF3 := Lib.hid hf3
        clear ho2 hb3 hof3 hf3 hCc hOf
        go_roundw
        case rel => exact ⟨3, best2, by first | rfl | go_num, by omega, HI3, Lib.hid ⟨HU.out.good hG.out.1 HLn.out HTr2.out (by rw [HE.out, HB]; exact hle), hG.out.2.1.trans HU.out.mono, hG.out.2.2.trans ((FarI.ofBelow HB2.out).trans HF3.out)⟩, Lib.hid ⟨fun _ => (hC.out.1 (by omega)).mono HU.out.mono, fun _ => (hC.out.2.1 (by omega)).mono HU.out.mono, fun _ => HU.out.wc1⟩⟩
        case measure => simp [intOf]
      · go_wp2
        go_roundw
        case rel => exact ⟨3, best', by first | rfl | go_num, by omega, hI, hG, Lib.hid ⟨fun _ => hC.out.1 (by omega), fun _ => hC.out.2.1 (by omega), fun _ => (WC1.far (by rw [HE.out, HB]; exact hle))⟩⟩
        case measure => simp [intOf]
    · have HW := Lib.hid (HWC.out best' (hC.out.1 (by omega)) (hC.out.2.1 (by omega)) (hC.out.2.2 (by omega)))
      go_wp2
      first | go_end0 | (simp only [Exit.inBlock, Exit.then]; refine bodyPost_ret (results_none rfl _ _ _) rfl ?_) | refine bodyPost_ret (results_none rfl _ _ _) rfl ?_
      exact ⟨rfl, best', ⟨hI.out.bs, hG.out.1, hG.out.2.1, hG.out.2.2⟩, HW.out⟩
end Go.Proofs.Ythkgaldpajnjgaa

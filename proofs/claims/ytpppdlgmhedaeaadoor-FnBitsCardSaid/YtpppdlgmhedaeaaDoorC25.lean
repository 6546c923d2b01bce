/-
  Contracts of what the laws draw from bytes: one, B10Bits. Conditions: the code is a row of bytes that came in.
-/
import Derived.Test.YtpppdlgmhedaeaaDoorSrc
import Derived.Test.YtpppdlgmhedaeaaDoorC5
namespace Go.Proofs.YtpppdlgmhedaeaaDoor
open Go.RowKit
set_option linter.unusedVariables false

theorem OwnI.far {k : IntKind} {base e p : Nat} {W w w' : World} {v : Value} {xs : List Int} (h : OwnI k base e W w v xs) (hf : FarI p (p + 1) w w') (hp : p + 1 ≤ base) : OwnI k base e w' w' v xs := by
  obtain ⟨g, cap, rfl⟩ := h.2.2.2
  have hlt := h.1.lt g rfl
  exact ⟨row_kept h.1 (hf.block g hlt.2 (by omega)), Below.refl _ _, Nat.le_trans h.2.2.1 hf.size, g, cap, rfl⟩
theorem SrcAt.under {p : Nat} {a : Option Addr} {len cap t : Nat} {s : Int} {w w' : World} (h : SrcAt w p a len cap t s) (hb : Below (p + 1) w w') : SrcAt w' p a len cap t s := (hb.block p (by omega)).trans h
theorem OwnI.self {k : IntKind} {base e : Nat} {W w : World} {v : Value} {xs : List Int} (h : OwnI k base e W w v xs) : OwnI k base e w w v xs := ⟨h.1, Below.refl _ _, h.2.2.1, h.2.2.2⟩
theorem one_any (n : Int) (p B : Nat) (a : Option Addr) (len cap : Nat) (zs : List Int) (t : Nat) (seed : Int) (w : World) (hs : SrcAt w p a len cap t seed) (hc : CodeAt w B a len cap zs) (hB : B ≤ p) (ht : t ≤ 100000000000) (n0 : 1 ≤ n) (n1 : n ≤ 100000000000) :
    Calls Tryd.prog 63 #[.pointer (some ⟨p, 0, none⟩), .int .i64 n] w fun e w' => ∃ (b : Bool) (seed' : Int) (t' : Nat), e = .returned (.bool b) ∧ t' ≤ t + 2 ∧ SrcAt w' p a len cap t' seed' ∧ FarI p (p + 1) w w' := by
  have HS := Lib.hid hs
  have HC := Lib.hid hc
  clear hs hc
  go_enter Tryd.func63, Tryd.ntmps63
  go_wp2_with fail
  refine (pick_any n p B a len cap zs t seed _ HS.out HC.out hB ht n0 n1).mono ?_
  rintro e w1 ⟨x, s1, t1, rfl, x0, x1, ht1, hs1, hf1⟩
  have HS1 := Lib.hid hs1
  have HF1 := Lib.hid hf1
  clear hs1 hf1
  go_wp2
  go_ret
  exact ⟨_, _, _, rfl, ht1, HS1.out, HF1.out⟩
theorem B10Bits_any (a : Option Addr) (len cap : Nat) (zs : List Int) (w : World) (h : IsRow .u8 w a len cap zs) :
    Calls Tryd.prog 37 #[.slice a len cap] w fun e w' => ∃ xs : List Int, e = .returned (.string (strOfNums xs)) ∧ xs.length ≤ 40 ∧ (∀ x ∈ xs, x = 48 ∨ x = 49) ∧ Below w.heap.size w w' := by
  have hcode := CodeAt.of h
  have HC := Lib.hid hcode
  clear hcode h
  go_enter Tryd.func37, Tryd.ntmps37
  go_wp2_with fail
  refine (l00From_any a len cap _).mono ?_
  rintro e w1 ⟨rfl, hs1, hb1, hz1⟩
  obtain ⟨p, hp⟩ : ∃ p, w.heap.size = p := ⟨_, rfl⟩
  rw [hp] at hs1 hz1 HC hb1 ⊢
  have HS1 := Lib.hid hs1
  have HB1 := Lib.hid hb1
  have HC1 := Lib.hid (HC.out.later hb1)
  clear hs1 hb1 HC
  go_wp2_with fail
  have hs2 := Blk.alloc HS1.out (.cells #[] 5)
  have hc2 := HC1.out.later ((Below.refl p w1).alloc (by omega) (.cells #[] 5))
  have ho2 : OwnI .u8 (p + 1) 5 (w1.alloc (.cells #[] 5)) (w1.alloc (.cells #[] 5)) (.slice (some ⟨p + 1, 0, none⟩) 0 0) [] := by
    have := OwnI.made (k := .u8) (e := 5) (Below.refl (p + 1) w1) (by omega)
    rw [hz1] at this
    exact this.self
  have hb2 : Below p w (w1.alloc (.cells #[] 5)) := HB1.out.alloc (by omega) _
  obtain ⟨w2, hw2⟩ : ∃ w2, w1.alloc (.cells #[] 5) = w2 := ⟨_, rfl⟩
  rw [hw2] at hs2 hc2 ho2 hb2 ⊢
  have HS2 := Lib.hid hs2
  have HC2 := Lib.hid hc2
  have HO2 := Lib.hid ho2
  have HB2 := Lib.hid hb2
  clear hs2 hc2 ho2 hb2 hw2
  refine (pick_any 41 p p a len cap zs 0 0 _ HS2.out HC2.out (Nat.le_refl _) (by decide) (by decide) (by decide)).mono ?_
  rintro e w3 ⟨x, s3, t3, rfl, x0, x1, ht3, hs3, hf3⟩
  have HS3 := Lib.hid hs3
  have HC3 := Lib.hid (HC2.out.far hf3 (Nat.le_refl _))
  have HO3 := Lib.hid (HO2.out.far hf3 (Nat.le_refl _))
  have HB3 := Lib.hid (HB2.out.trans (hf3.below (Nat.le_refl _) (by have := HS2.out.lt; omega)))
  obtain ⟨K, rfl⟩ := Int.eq_ofNat_of_zero_le x0
  clear hs3 hf3
  go_wp2
  go_loopw [4, 5, 6] (fun v b y wr => ∃ (k t : Nat) (z s : Int) (xs : List Int), y = .int .i64 k ∧ b = .int .u8 z ∧ (z = 48 ∨ z = 49) ∧ t + 4 * k ≤ 200 ∧ Hid (k + xs.length ≤ 40) ∧ Hid (∀ x ∈ xs, x = 48 ∨ x = 49) ∧ Hid (SrcAt wr p a len cap t s) ∧ Hid (CodeAt wr p a len cap zs) ∧ Hid (OwnI .u8 (p + 1) 5 wr wr v xs) ∧ Hid (Below p w wr)) (fun _ _ y _ => (intOf y).toNat)
  case atStart => exact ⟨K, t3, 48, s3, [], rfl, rfl, .inl rfl, by omega, Lib.hid (by simp; omega), Lib.hid (by simp), HS3, HC3, HO3, HB3⟩
  case round =>
    obtain ⟨k, t, z, s, xs, rfl, rfl, hz, htk, hlen, hall, hsr, hco, how, hbe⟩ := hrel
    rcases Nat.eq_zero_or_pos k with h0 | h0
    · subst h0
      have hcv := OwnI.conv tB how.out Tryd.underlying9
      go_wp2
      go_ret
      exact ⟨xs, rfl, by have := hlen.out; omega, hall.out, by rw [hp]; exact hbe.out⟩
    · have hk : k ≤ 50 := by omega
      go_wp2_with fail
      refine (one_any 2 p p a len cap zs t s _ hsr.out hco.out (Nat.le_refl _) (by omega) (by decide) (by decide)).mono ?_
      rintro e w4 ⟨b, s4, t4, rfl, ht4, hs4, hf4⟩
      have HS4 := Lib.hid hs4
      have HC4 := Lib.hid (hco.out.far hf4 (Nat.le_refl _))
      have HO4 := Lib.hid (how.out.far hf4 (Nat.le_refl _))
      have HB4 := Lib.hid (hbe.out.trans (hf4.below (Nat.le_refl _) (by have := hsr.out.lt; omega)))
      have HL := Lib.hid (show xs.length < 1000000000000 by have := hlen.out; omega)
      obtain ⟨k', rfl⟩ : ∃ k', k = k' + 1 := ⟨k - 1, by omega⟩
      clear hs4 hf4
      cases b with
      | true =>
        go_wp2_with fail
        refine (pick_any 2 p p a len cap zs t4 s4 _ HS4.out HC4.out (Nat.le_refl _) (by omega) (by decide) (by decide)).mono ?_
        rintro e w5 ⟨x, s5, t5, rfl, x0, x1, ht5, hs5, hf5⟩
        have HS5 := Lib.hid hs5
        have HC5 := Lib.hid (HC4.out.far hf5 (Nat.le_refl _))
        have HO5 := Lib.hid (HO4.out.far hf5 (Nat.le_refl _))
        have HB5 := Lib.hid (HB4.out.trans (hf5.below (Nat.le_refl _) (by have := HS4.out.lt; omega)))
        have u1 : IntKind.u8.wrap (48 + x) = 48 + x := IntWalk.u8_in _ (by omega)
        have HA := Lib.hid (show ∀ y ∈ xs ++ [48 + x], y = 48 ∨ y = 49 by
          intro y hy
          rcases List.mem_append.1 hy with h | h
          · exact hall.out y h
          · simp only [List.mem_singleton] at h; omega)
        clear hs5 hf5
        go_wp2_with (at_builtin; refine wpApp tB rfl _ _ rfl rfl HO5.out rfl (by decide) HL.out ?_; intro v' w6 hown1)
        have HS6 := Lib.hid (HS5.out.under (p := p) hown1.below)
        have HC6 := Lib.hid (HC5.out.later (hown1.below.mono (by omega)))
        have HB6 := Lib.hid (HB5.out.trans (hown1.below.mono (by omega)))
        have HO6 := Lib.hid hown1.self
        clear hown1
        go_roundw
        case rel => exact ⟨k', t5, 48 + x, s5, xs ++ [48 + x], by go_num, rfl, by omega, by omega, Lib.hid (by have := hlen.out; rw [List.length_append, List.length_singleton]; omega), HA, HS6, HC6, HO6, HB6⟩
        case measure => simp [intOf] <;> omega
      | false =>
        have HA := Lib.hid (show ∀ y ∈ xs ++ [z], y = 48 ∨ y = 49 by
          intro y hy
          rcases List.mem_append.1 hy with h | h
          · exact hall.out y h
          · simp only [List.mem_singleton] at h; omega)
        go_wp2_with (at_builtin; refine wpApp tB rfl _ _ rfl rfl HO4.out rfl (by decide) HL.out ?_; intro v' w6 hown1)
        have HS6 := Lib.hid (HS4.out.under (p := p) hown1.below)
        have HC6 := Lib.hid (HC4.out.later (hown1.below.mono (by omega)))
        have HB6 := Lib.hid (HB4.out.trans (hown1.below.mono (by omega)))
        have HO6 := Lib.hid hown1.self
        clear hown1
        go_roundw
        case rel => exact ⟨k', t4, z, s4, xs ++ [z], by go_num, rfl, hz, by omega, Lib.hid (by have := hlen.out; rw [List.length_append, List.length_singleton]; omega), HA, HS6, HC6, HO6, HB6⟩
        case measure => simp [intOf] <;> omega
end Go.Proofs.YtpppdlgmhedaeaaDoor

/-
  The program's linear equations modulo 2 in memory; contracts of lead and reduced. Conditions: at most 32 unknowns; the rows in echelon form.
-/
import Derived.Test.YtgcfibljepdkkaaDoorE3
namespace Go.Proofs.YtgcfibljepdkkaaDoor
open Go.RowKit
set_option linter.unusedVariables false

theorem bits_and_neg {u l : Nat} (h : u.testBit l = true) (h0 : ∀ i, i < l → u.testBit i = false) (hu : u < 9223372036854775808) : bits .and .i64 (u : Int) (-(u : Int)) = ((2 ^ l : Nat) : Int) := by
  have hl := low_bit h h0 (by simpa using hu)
  have hu0 : 0 < u := Nat.pos_of_ne_zero fun e => by subst e; simp at h
  have e1 : (BitVec.ofInt 64 (-(u : Int))).toNat = 2 ^ 64 - u := by
    rw [BitVec.toNat_ofInt]
    have : (-(u : Int)) % ((2 ^ 64 : Nat) : Int) = ((2 ^ 64 - u : Nat) : Int) := by omega
    rw [this]; rfl
  have h2 : 2 ^ l < 9223372036854775808 := by
    have : 2 ^ l ≤ u := Nat.le_of_not_lt fun c => by rw [Nat.testBit_lt_two_pow c] at h; cases h
    omega
  show IntKind.i64.wrap ((BitVec.ofInt 64 (u : Int) &&& BitVec.ofInt 64 (-(u : Int))).toNat : Int) = _
  rw [BitVec.toNat_and, ofInt64_nat u hu, e1, hl, wrap_i64_nat _ h2]
theorem bl_two_pow (l : Nat) : bl (2 ^ l) = l + 1 := bl_eq' (by omega) (by simp) (by rw [Nat.pow_succ]; have : 0 < 2 ^ l := Nat.pow_pos (by decide); omega)
/-- The rows in memory. -/
def EqV (w : World) (p : Nat) (v : Value) (rows : List Nat) : Prop := (rows = [] ∧ v = .slice none 0 0) ∨ OwnI .i64 (p + 1) 2 w w v (nl rows)
/-- The equations at block p. -/
structure EqAt (w : World) (p W : Nat) (v : Value) (rows : List Nat) : Prop where
  blk : Blk w p #[.int .i64 W, v] 57
  rows : EqV w p v rows
theorem EqAt.open {w : World} {p W : Nat} {v : Value} {rows : List Nat} (h : EqAt w p W v rows) : ∃ a c, v = .slice a rows.length c ∧ (0 < rows.length → ∃ g, a = some ⟨g, 0, none⟩ ∧ p + 1 ≤ g ∧ g < w.heap.size ∧ (∀ j, j < rows.length → w.cell? ⟨g, j, none⟩ = some (.int .i64 (rows.getD j 0 : Nat))) ∧ ∀ j, w.frozen? ⟨g, j, none⟩ = false) := by
  rcases h.rows with ⟨rfl, rfl⟩ | h
  · exact ⟨none, 0, rfl, fun q => absurd q (by simp)⟩
  · obtain ⟨g, cap, rfl, h1, h2, _, _, h5, h6⟩ := h.cell
    rw [nl_len] at h5 ⊢
    exact ⟨_, cap, rfl, fun _ => ⟨g, rfl, h1, h2, fun j hj => by rw [h5 j hj, nl_getD], h6⟩⟩
theorem EqAt.later {w w' : World} {p W : Nat} {v : Value} {rows : List Nat} (h : EqAt w p W v rows) (hb : Below w.heap.size w w') : EqAt w' p W v rows := by
  refine ⟨h.blk.later hb, ?_⟩
  rcases h.rows with q | q
  · exact .inl q
  · have := q.later hb
    exact .inr ⟨this.1, Below.refl _ _, this.2.2.1, this.2.2.2⟩
theorem lead_yes {w : World} {p W r l : Nat} (c0 : w.cell? ⟨p, 0, none⟩ = some (.int .i64 W)) (hW : W ≤ 32) (hr : r < 2 ^ (W + 1)) (hl : LeadIs W r l) :
    Calls Tryd.prog 58 #[.pointer (some ⟨p, 0, none⟩), .int .i64 r] w fun e w' => e = .returned (.int .i64 (l : Nat)) ∧ w = w' := by
  have hr2 := pow33 hW
  obtain ⟨q, HQ⟩ : ∃ q, Hid (2 ^ W = q) := ⟨_, Lib.hid rfl⟩
  have hq0 : 0 < q := by rw [← HQ.out]; exact Nat.pow_pos (by decide)
  have hq : q ≤ 4294967296 := by rw [← HQ.out]; exact Nat.le_trans (Nat.pow_le_pow_right (by decide) hW) (by decide)
  have hsh : wrap64 (2 ^ W) = (q : Int) := by rw [shl_one (by omega), HQ.out]
  have hq1 : (q : Int) - 1 = ((q - 1 : Nat) : Int) := by omega
  have hand : bits .and .i64 (r : Int) ((q - 1 : Nat) : Int) = ((r % q : Nat) : Int) := by
    rw [i64_and_nat r (q - 1) (by omega) (by omega), ← HQ.out, Nat.and_two_pow_sub_one_eq_mod]
  have hul : (r % q).testBit l = true := by rw [← HQ.out, Nat.testBit_mod_two_pow]; simp [hl.1, hl.2.1]
  have hu0 : ∀ i, i < l → (r % q).testBit i = false := fun i hi => by rw [← HQ.out, Nat.testBit_mod_two_pow, hl.2.2 i hi]; simp
  have huq : r % q < q := Nat.mod_lt _ hq0
  obtain ⟨u, HU⟩ : ∃ u, Hid (r % q = u) := ⟨_, Lib.hid rfl⟩
  rw [HU.out] at hand hul hu0 huq
  obtain ⟨q1, HQ1⟩ : ∃ q1, Hid (q - 1 = q1) := ⟨_, Lib.hid rfl⟩
  rw [HQ1.out] at hq1 hand
  have hneg := bits_and_neg hul hu0 (by omega)
  have hl32 : l < 32 := by have := hl.1; omega
  have h2l : 2 ^ l < 9223372036854775808 := Nat.lt_of_lt_of_le (Nat.pow_lt_pow_right (a := 2) (by decide) hl32) (by decide)
  have hdeg := fun w1 => degree_any (2 ^ l) w1 h2l
  rw [bl_two_pow] at hdeg
  obtain ⟨y, HY⟩ : ∃ y, Hid (2 ^ l = y) := ⟨_, Lib.hid rfl⟩
  rw [HY.out] at hneg
  simp only [HY.out] at hdeg
  clear hul hu0 hl h2l
  go_enter Tryd.func58, Tryd.ntmps58
  go_wp2_with fail
  refine (hdeg _).mono ?_
  rintro e w' ⟨rfl, rfl⟩
  go_wp2
  go_ret
  exact ⟨ret_i64 (by omega), rfl⟩
theorem lead_no {w : World} {p W r : Nat} (c0 : w.cell? ⟨p, 0, none⟩ = some (.int .i64 W)) (hW : W ≤ 32) (hr : r < 2 ^ (W + 1)) (h0 : ∀ i, i < W → r.testBit i = false) :
    Calls Tryd.prog 58 #[.pointer (some ⟨p, 0, none⟩), .int .i64 r] w fun e w' => e = .returned (.int .i64 (-1)) ∧ w = w' := by
  have hr2 := pow33 hW
  obtain ⟨q, HQ⟩ : ∃ q, Hid (2 ^ W = q) := ⟨_, Lib.hid rfl⟩
  have hq0 : 0 < q := by rw [← HQ.out]; exact Nat.pow_pos (by decide)
  have hq : q ≤ 4294967296 := by rw [← HQ.out]; exact Nat.le_trans (Nat.pow_le_pow_right (by decide) hW) (by decide)
  have hsh : wrap64 (2 ^ W) = (q : Int) := by rw [shl_one (by omega), HQ.out]
  have hq1 : (q : Int) - 1 = ((q - 1 : Nat) : Int) := by omega
  have hz : r % q = 0 := by
    apply Nat.eq_of_testBit_eq
    intro i
    rw [← HQ.out, Nat.testBit_mod_two_pow, Nat.zero_testBit]
    by_cases c : i < W
    · rw [h0 i c]; simp
    · simp [c]
  have hand : bits .and .i64 (r : Int) ((q - 1 : Nat) : Int) = 0 := by
    rw [i64_and_nat r (q - 1) (by omega) (by omega), ← HQ.out, Nat.and_two_pow_sub_one_eq_mod, HQ.out, hz]; rfl
  obtain ⟨q1, HQ1⟩ : ∃ q1, Hid (q - 1 = q1) := ⟨_, Lib.hid rfl⟩
  rw [HQ1.out] at hq1 hand
  have hneg : bits .and .i64 0 0 = 0 := by decide
  have hdeg := fun w1 => degree_any 0 w1 (by decide)
  rw [bl_zero] at hdeg
  clear h0 hz
  go_enter Tryd.func58, Tryd.ntmps58
  go_wp2_with fail
  refine (hdeg _).mono ?_
  rintro e w' ⟨rfl, rfl⟩
  go_wp2
  go_ret
  exact ⟨rfl, rfl⟩
theorem reduced_any {w : World} {p W r : Nat} {v : Value} {rows : List Nat} {ld : Nat → Nat} (h : EqAt w p W v rows) (hE : Ech W rows ld) (hW : W ≤ 32) (hr : r < 2 ^ (W + 1)) (hn : rows.length ≤ 100) :
    Calls Tryd.prog 57 #[.pointer (some ⟨p, 0, none⟩), .int .i64 r] w fun e w' => e = .returned (.int .i64 (rdc rows ld r rows.length : Nat)) ∧ w = w' := by
  obtain ⟨a, c, rfl, hcell⟩ := h.open
  have c0 := h.blk.cell 0 rfl
  have c1 := h.blk.cell 1 rfl
  have HC0 := Lib.hid c0
  have HCc := Lib.hid hcell
  have HEc := Lib.hid hE
  have hp := pow33 hW
  clear hcell h hE
  go_enter Tryd.func57, Tryd.ntmps57
  go_wp2
  go_loop [1, 13] (fun x i => ∃ k : Nat, k ≤ rows.length ∧ i = .int .i64 k ∧ x = .int .i64 (rdc rows ld r k : Nat)) (fun _ i => rows.length - (intOf i).toNat)
  case atStart => exact ⟨0, Nat.zero_le _, rfl, rfl⟩
  case round =>
    obtain ⟨k, hk, rfl, rfl⟩ := hrel
    by_cases hlt : k < rows.length
    · obtain ⟨g, rfl, _, _, hcc, _⟩ := HCc.out (by omega)
      have q1 := hcc k hlt
      have hx := HEc.out.lt _ (mem_getD hlt)
      have hld := HEc.out.lead k hlt
      have hld32 : ld k < 32 := by have := hld.1; omega
      have hle := fun w1 c0 => lead_yes (w := w1) (p := p) c0 hW hx hld
      have hcr := rdc_lt (ld := ld) hr HEc.out.lt k hk
      have HN : Hid (rdc rows ld r (k + 1) = if (rdc rows ld r k).testBit (ld k) = true then rdc rows ld r k ^^^ rows.getD k 0 else rdc rows ld r k) := Lib.hid rfl
      obtain ⟨x, HX⟩ : ∃ x, Hid (rows.getD k 0 = x) := ⟨_, Lib.hid rfl⟩
      obtain ⟨y, HY⟩ : ∃ y, Hid (rdc rows ld r k = y) := ⟨_, Lib.hid rfl⟩
      simp only [HX.out, HY.out] at HN q1 hx hle hcr ⊢
      have hx63 : x < 9223372036854775808 := by omega
      have hy63 : y < 9223372036854775808 := by omega
      have hxor := i64_xor_nat y x hy63 hx63
      obtain ⟨l, HL⟩ : ∃ l, Hid (ld k = l) := ⟨_, Lib.hid rfl⟩
      simp only [HL.out] at HN hle hld32
      clear hcc hld hx hcr hp
      cases hbit : y.testBit l with
      | true =>
        have hA := and_yes hy63 hbit
        rw [hbit, if_pos rfl] at HN
        clear hbit
        go_wp2_with (go_at_call 58; refine (hle _ HC0.out).mono ?_; rintro e w' ⟨rfl, rfl⟩)
        go_round
        case rel => exact ⟨k + 1, by omega, by go_num, by rw [HN.out]⟩
        case measure => simp [intOf]; omega
      | false =>
        have hA := and_no hy63 hbit
        rw [hbit, if_neg (by decide)] at HN
        clear hbit hxor
        go_wp2_with (go_at_call 58; refine (hle _ HC0.out).mono ?_; rintro e w' ⟨rfl, rfl⟩)
        go_round
        case rel => exact ⟨k + 1, by omega, by go_num, by rw [HN.out]⟩
        case measure => simp [intOf]; omega
    · have hke : k = rows.length := by omega
      subst hke
      go_wp2
      go_ret
      exact ⟨rfl, rfl⟩
end Go.Proofs.YtgcfibljepdkkaaDoor

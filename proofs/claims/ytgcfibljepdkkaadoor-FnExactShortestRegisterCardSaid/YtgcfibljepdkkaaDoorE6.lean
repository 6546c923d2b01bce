/-
  Contracts of the program's least and tapsFor. Conditions: at most 32 bits.
-/
import Derived.Test.YtgcfibljepdkkaaDoorE5
namespace Go.Proofs.YtgcfibljepdkkaaDoor
open Go.RowKit
set_option linter.unusedVariables false

theorem top_le {W e : Nat} (h : e < 2 ^ (W + 1)) : e / 2 ^ W ≤ 1 := by rw [top_or h]; split <;> omega
theorem lst_lt {W : Nat} {rows : List Nat} {ld : Nat → Nat} (h : Ech W rows ld) (hW : W ≤ 32) : ∀ k, k ≤ rows.length → lst rows ld W k < 2 ^ 32
  | 0, _ => by simp [lst]
  | k + 1, hk => by
    have ih := lst_lt h hW k (by omega)
    have h1 := top_le (h.lt _ (mem_getD (show k < rows.length by omega)))
    have h2 := (h.lead k (by omega)).1
    rw [lst]
    refine Nat.or_lt_two_pow ih ?_
    have h3 : rows.getD k 0 / 2 ^ W * 2 ^ ld k ≤ 1 * 2 ^ ld k := Nat.mul_le_mul_right _ h1
    have h4 : 2 ^ ld k < 2 ^ 32 := Nat.pow_lt_pow_right (by decide) (by omega)
    omega
set_option maxHeartbeats 1000000 in
theorem least_any {w : World} {p W : Nat} {v : Value} {rows : List Nat} {ld : Nat → Nat} (h : EqAt w p W v rows) (hE : Ech W rows ld) (hW : W ≤ 32) (hn : rows.length ≤ 100) :
    Calls Tryd.prog 38 #[.pointer (some ⟨p, 0, none⟩)] w fun e w' => e = .returned (.int .i64 (lst rows ld W rows.length : Nat)) ∧ ∃ n, w' = w.drewN n := by
  obtain ⟨a, c, rfl, hcell⟩ := h.open
  have c0 := h.blk.cell 0 rfl
  have c1 := h.blk.cell 1 rfl
  have HC0 : Hid (∀ n, (w.drewN n).cell? ⟨p, 0, none⟩ = some (.int .i64 W)) := Lib.hid fun n => (h.blk.drewN n).cell 0 rfl
  have HCc := Lib.hid hcell
  have HEc := Lib.hid hE
  have hp := pow33 hW
  clear hcell h hE
  go_enter Tryd.func38, Tryd.ntmps38
  go_wp2
  go_loopw [3, 11] (fun x i wr => ∃ k n : Nat, k ≤ rows.length ∧ i = .int .i64 k ∧ x = .int .i64 (lst rows ld W k : Nat) ∧ wr = w.drewN n) (fun _ i _ => rows.length - (intOf i).toNat)
  case atStart => exact ⟨0, 0, Nat.zero_le _, rfl, rfl, rfl⟩
  case round =>
    obtain ⟨k, n, hk, rfl, rfl, rfl⟩ := hrel
    by_cases hlt : k < rows.length
    · obtain ⟨g, rfl, _, _, hcc, _⟩ := HCc.out (by omega)
      have q1 := hcc k hlt
      have hx := HEc.out.lt _ (mem_getD hlt)
      have hld := HEc.out.lead k hlt
      have hld32 : ld k < 32 := by have := hld.1; omega
      have hle := fun w1 c0 => lead_yes (w := w1) (p := p) c0 hW hx hld
      have hlk := lst_lt HEc.out hW k hk
      have htop := top_le hx
      have HN : Hid (lst rows ld W (k + 1) = lst rows ld W k ||| ((rows.getD k 0 / 2 ^ W) * 2 ^ ld k)) := Lib.hid rfl
      obtain ⟨x, HX⟩ : ∃ x, Hid (rows.getD k 0 = x) := ⟨_, Lib.hid rfl⟩
      obtain ⟨y, HY⟩ : ∃ y, Hid (lst rows ld W k = y) := ⟨_, Lib.hid rfl⟩
      obtain ⟨l, HL⟩ : ∃ l, Hid (ld k = l) := ⟨_, Lib.hid rfl⟩
      simp only [HX.out, HY.out, HL.out] at HN q1 hx hle hlk htop hld32 ⊢
      have hx63 : x < 9223372036854775808 := by omega
      have hdiv : (x : Int) / 2 ^ W = ((x / 2 ^ W : Nat) : Int) := by rw [Int.natCast_ediv, Int.natCast_pow]; rfl
      obtain ⟨t, HT⟩ : ∃ t, Hid (x / 2 ^ W = t) := ⟨_, Lib.hid rfl⟩
      rw [HT.out] at hdiv HN htop
      have hm3 : t * 2 ^ l ≤ 1 * 2 ^ l := Nat.mul_le_mul_right _ htop
      have hpl : 2 ^ l < 2 ^ 32 := Nat.pow_lt_pow_right (by decide) hld32
      have p32 : (2 : Nat) ^ 32 = 4294967296 := by decide
      rw [p32] at hpl hlk
      have hz63 : t * 2 ^ l < 9223372036854775808 := by omega
      have hs := shl_nat hz63
      have ho := i64_or_nat y (t * 2 ^ l) (by omega) hz63
      obtain ⟨z, HZ⟩ : ∃ z, Hid (t * 2 ^ l = z) := ⟨_, Lib.hid rfl⟩
      rw [HZ.out] at hs ho HN
      have u1 : (0 : Int) ≤ (l : Int) := by omega
      clear hcc hld hx hp hm3 hpl hlk p32 hz63
      go_wp2
      go_quiet ((go_at_call 58; exact quiet_add_left (hle _ (HC0.out _))))
      go_wp2
      go_roundw
      case rel => exact ⟨k + 1, _, by omega, by go_num, by rw [HN.out], rfl⟩
      case measure => simp [intOf]; omega
    · have hke : k = rows.length := by omega
      subst hke
      go_wp2
      go_ret
      exact ⟨rfl, _, rfl⟩
/-- What tapsFor hands back: the least taps of a width, if there are some. -/
def TapR (s : ByteArray) (W : Nat) (w : World) (e : Ending) (w' : World) : Prop :=
  (∃ L, LeastS W (eqA s W) L ∧ e = .returned (.tuple #[.int .i64 (L : Nat), .bool true]) ∧ Below w.heap.size w w') ∨ (¬ Solv W (eqA s W) ∧ e = .returned (.tuple #[.int .i64 (0 : Nat), .bool false]) ∧ Below w.heap.size w w')
theorem eqL_sub {s : ByteArray} {W t n : Nat} (h : t ≤ n) : ∀ e ∈ eqL s W t, e ∈ eqL s W n := by
  intro e he
  obtain ⟨i, hi, rfl⟩ := List.mem_map.1 he
  exact List.mem_map.2 ⟨i, List.mem_range.2 (by have := List.mem_range.1 hi; omega), rfl⟩
theorem no_taps {s : ByteArray} {W t : Nat} {rows : List Nat} (ht : t < s.size - W) (h1 : ∀ x, AllS W rows x ↔ AllS W (eqL s W t) x) (h2 : ∀ x, AllS W rows x → ¬ Sat W (eqN s t (W + 1)) x) : ¬ Solv W (eqA s W) := by
  rintro ⟨x, hx⟩
  refine h2 x ((h1 x).2 fun e he => hx e (eqL_sub (by omega) e he)) (hx _ (List.mem_map.2 ⟨t, List.mem_range.2 ht, rfl⟩))
theorem ech_nil (W : Nat) (ld : Nat → Nat) : Ech W [] ld := ⟨fun i hi => by simp at hi, fun i j hi => by simp at hi, fun e he => by simp at he⟩
set_option maxHeartbeats 1000000 in
set_option maxRecDepth 100000 in
theorem tapsFor_any (s : ByteArray) (W : Nat) (w : World) (hb : BitsTo s s.size) (hs : s.size ≤ 32) (hW : W ≤ s.size) :
    Calls Tryd.prog 31 #[.string s, .int .i64 W] w (TapR s W w) := by
  have HB := Lib.hid hb
  clear hb
  obtain ⟨p, HP⟩ : ∃ p, Hid (w.heap.size = p) := ⟨_, Lib.hid rfl⟩
  have hE0 : EqAt (w.alloc (.cells #[.int .i64 W, .slice none 0 0] 57)) p W (.slice none 0 0) [] := ⟨Blk.new' HP.out _ _, .inl ⟨rfl, rfl⟩⟩
  have HE0 := Lib.hid hE0
  have HB0 : Hid (Below p w (w.alloc (.cells #[.int .i64 W, .slice none 0 0] 57))) := Lib.hid (by rw [← HP.out]; exact bw_alloc (bw_refl _) _)
  clear hE0
  go_enter Tryd.func31, Tryd.ntmps31
  go_wp2
  rw [HP.out]
  go_loopw [7] (fun i wr => ∃ (t : Nat) (v : Value) (rows : List Nat) (ld : Nat → Nat), t ≤ s.size - W ∧ i = .int .i64 t ∧ Hid (EqAt wr p W v rows) ∧ Hid (Ech W rows ld) ∧ Hid (rows.length ≤ t) ∧ Hid (∀ x, AllS W rows x ↔ AllS W (eqL s W t) x) ∧ Hid (Below p w wr)) (fun i _ => s.size - W - (intOf i).toNat)
  case atStart => exact ⟨0, _, [], fun _ => 0, Nat.zero_le _, rfl, HE0, Lib.hid (ech_nil _ _), Lib.hid (Nat.le_refl _), Lib.hid (fun x => Iff.rfl), HB0⟩
  case round =>
    obtain ⟨t, v, rows, ld, ht, rfl, heq, hech, hlen, hall, hbel⟩ := hrel
    have hW32 : W ≤ 32 := by omega
    by_cases hlt : t < s.size - W
    · have r1 : (t : Int) + (W : Int) < (s.size : Int) := by omega
      go_wp2
      go_loop [8, 22] (fun q i => ∃ k : Nat, k ≤ W ∧ i = .int .i64 k ∧ q = .int .i64 (eqN s t k : Nat)) (fun _ i => W - (intOf i).toNat)
      case atStart => exact ⟨0, Nat.zero_le _, rfl, rfl⟩
      case round =>
        obtain ⟨k, hk, rfl, rfl⟩ := hrel
        have hq := eqN_lt HB.out t k (by omega)
        by_cases hkl : k < W
        · have hp := pow33 hW32
          have hp2 : 2 ^ k ≤ 2 ^ (W + 1) := Nat.pow_le_pow_right (by decide) (by omega)
          have hj : t + k < s.size := by omega
          have hbb := byte_bit HB.out hj
          have hb1 := (bitN_byt HB.out hj).2
          have HE : Hid (eqN s t (k + 1) = eqN s t k ||| bitN s (t + k) * 2 ^ k) := Lib.hid rfl
          obtain ⟨j, HJ⟩ : ∃ j, Hid (t + k = j) := ⟨_, Lib.hid rfl⟩
          have hj2 : (t : Int) + (k : Int) = (j : Int) := by have := HJ.out; omega
          simp only [HJ.out] at hbb hb1 HE hj
          obtain ⟨b, HBt⟩ : ∃ b, Hid (bitN s j = b) := ⟨_, Lib.hid rfl⟩
          rw [HBt.out] at hbb hb1 HE
          obtain ⟨q, HQ⟩ : ∃ q, Hid (eqN s t k = q) := ⟨_, Lib.hid rfl⟩
          rw [HQ.out] at hq HE ⊢
          have hm : b * 2 ^ k ≤ 1 * 2 ^ k := Nat.mul_le_mul_right _ hb1
          have hm3 : b * 2 ^ k < 9223372036854775808 := by omega
          have HS := Lib.hid (shl_nat hm3)
          have HO := Lib.hid (i64_or_nat q (b * 2 ^ k) (by omega) hm3)
          clear hm hm3 hp hp2 hq
          go_wp2
          rw [HS.out, HO.out]
          go_round
          case rel => exact ⟨k + 1, by omega, by go_num, by rw [HE.out]⟩
          case measure => simp [intOf]; omega
        · have hke : k = W := by omega
          subst hke
          have hj : t + k < s.size := by omega
          have hbb := byte_bit HB.out hj
          have hb1 := (bitN_byt HB.out hj).2
          have HE : Hid (eqN s t (k + 1) = eqN s t k ||| bitN s (t + k) * 2 ^ k) := Lib.hid rfl
          have HAdd := fun (b : Nat) (hb : b ≤ 1) => add_any (b := b) heq.out hech.out hW32 hq hb (by have := hlen.out; omega)
          have HNo := fun h => no_taps (s := s) hlt hall.out h
          have HYes : Hid (∀ rows', (∀ x, AllS k rows' x ↔ AllS k rows x ∧ Sat k (eqN s t (k + 1)) x) → ∀ x, AllS k rows' x ↔ AllS k (eqL s k (t + 1)) x) := Lib.hid fun rows' h x => by
            rw [h x, eqL_succ, alls_snoc, hall.out x]
          obtain ⟨j, HJ⟩ : ∃ j, Hid (t + k = j) := ⟨_, Lib.hid rfl⟩
          have hj2 : (t : Int) + (k : Int) = (j : Int) := by have := HJ.out; omega
          simp only [HJ.out] at hbb hb1 HE hj
          obtain ⟨b, HBt⟩ : ∃ b, Hid (bitN s j = b) := ⟨_, Lib.hid rfl⟩
          rw [HBt.out] at hbb hb1 HE
          have hAdd := HAdd b hb1
          rw [← HE.out] at hAdd
          obtain ⟨q, HQ⟩ : ∃ q, Hid (eqN s t k = q) := ⟨_, Lib.hid rfl⟩
          rw [HQ.out] at hAdd ⊢
          have HN := Lib.hid HNo
          clear hq HAdd HNo
          go_wp2_with fail
          refine hAdd.mono ?_
          clear hAdd
          rintro e w2 h
          rcases h with ⟨v', rows', ld', rfl, a1, a2, a3, a4, a5⟩ | ⟨rfl, a1, a2⟩
          · have A1 := Lib.hid a1
            have A2 := Lib.hid a2
            have A3 : Hid (rows'.length ≤ t + 1) := Lib.hid (by have := hlen.out; omega)
            have A4 := Lib.hid (HYes.out rows' a4)
            have A5 := Lib.hid (hbel.out.trans a5)
            clear a1 a2 a3 a4 a5
            go_wp2
            go_roundw
            case rel => exact ⟨t + 1, v', rows', ld', by omega, by go_num, A1, A2, A3, A4, A5⟩
            case measure => simp [intOf]; omega
          · have A1 := Lib.hid (HN.out a1)
            have A2 := Lib.hid (hbel.out.trans a2)
            clear a1 a2
            go_wp2
            go_ret2
            exact .inr ⟨A1.out, rfl, by rw [HP.out]; exact A2.out⟩
    · have hke : t = s.size - W := by omega
      subst hke
      have r1 : ¬ ((s.size - W : Nat) : Int) + (W : Int) < (s.size : Int) := by omega
      have HL : Hid (LeastS W (eqA s W) (lst rows ld W rows.length)) := Lib.hid ((ech_least hech.out).congr hall.out)
      have hLe := fun w1 (h : EqAt w1 p W v rows) => least_any h hech.out hW32 (by have := hlen.out; omega)
      obtain ⟨L, HLL⟩ : ∃ L, Hid (lst rows ld W rows.length = L) := ⟨_, Lib.hid rfl⟩
      rw [HLL.out] at HL
      simp only [HLL.out] at hLe
      go_wp2_with fail
      refine (hLe _ heq.out).mono ?_
      clear hLe
      rintro e w2 ⟨rfl, n, rfl⟩
      go_wp2
      go_ret2
      exact .inl ⟨L, HL.out, rfl, by rw [HP.out]; exact below_drewN hbel.out _⟩
end Go.Proofs.YtgcfibljepdkkaaDoor

/-
  Contracts of the reference's long division and of its sums, products and comparison of fractions. Conditions stand in each contract.
-/
import Derived.Test.YtcmmcffglmcegaaS1
import Derived.Test.YtcmmcffglmcegaaM16
namespace Go.Proofs.Ytcmmcffglmcegaa
open Go.RowKit
set_option linter.unusedVariables false

theorem split_step {a d : Int} {k : Nat} {q r b : Int} (d0 : 1 ≤ d) (hq : a / 2 ^ (k + 1) / d = q) (hr : a / 2 ^ (k + 1) % d = r) (hb : a / 2 ^ k % 2 = b) : (d ≤ 2 * r + b → a / 2 ^ k / d = 2 * q + 1 ∧ a / 2 ^ k % d = 2 * r + b - d) ∧ (2 * r + b < d → a / 2 ^ k / d = 2 * q ∧ a / 2 ^ k % d = 2 * r + b) := by
  have e : a / 2 ^ (k + 1) = a / 2 ^ k / 2 := by rw [Int.ediv_ediv_of_nonneg (by exact Int.le_of_lt (Int.pow_pos (by decide))), Int.pow_succ]
  rw [e] at hq hr
  generalize a / 2 ^ k = P at *
  have h1 := Int.mul_ediv_add_emod (P / 2) d
  rw [hq, hr] at h1
  have h2 : P = 2 * (P / 2) + b := by omega
  have b0 : 0 ≤ r := by rw [← hr]; exact Int.emod_nonneg _ (by omega)
  have b1 : r < d := by rw [← hr]; exact Int.emod_lt_of_pos _ (by omega)
  constructor
  · intro h
    exact divmod_of (by rw [h2, ← h1]; grind) (by omega) (by omega)
  · intro h
    exact divmod_of (by rw [h2, ← h1]; grind) (by omega) (by omega)
theorem u64_or_two {c x : Int} (c0 : 0 ≤ c) (c1 : c < 2) (x0 : 0 ≤ x) (h : x < 9223372036854775808) : bits .or .u64 (x * 2) c = x * 2 + c := by
  obtain ⟨C, rfl⟩ := Int.eq_ofNat_of_zero_le c0
  obtain ⟨X, rfl⟩ := Int.eq_ofNat_of_zero_le x0
  have e : ((X : Int) * 2) = ((2 ^ 1 * X : Nat) : Int) := by omega
  rw [e, u64_or_nat _ _ (by omega) (by omega), ← Nat.two_pow_add_eq_or_of_lt (by omega)]
  omega
theorem u64_and_one {c : Int} (c0 : 0 ≤ c) (c1 : c < 18446744073709551616) : bits .and .u64 c 1 = c % 2 := by
  have := u64_mask (c := c) 1 c0 c1 (by omega)
  simpa using this
theorem bit_high {a ah al : Int} {k : Nat} (e : a = ah * 18446744073709551616 + al) (l0 : 0 ≤ al) (l1 : al < 18446744073709551616) (hk : 64 ≤ k) : ah / 2 ^ (k - 64) = a / 2 ^ k := by
  obtain ⟨j, rfl⟩ : ∃ j, k = 64 + j := ⟨k - 64, by omega⟩
  rw [Nat.add_sub_cancel_left, Int.pow_add, ← Int.ediv_ediv_of_nonneg (by decide)]
  congr 1
  have : (2 : Int) ^ 64 = 18446744073709551616 := by decide
  rw [this]
  omega
theorem bit_low {a ah al : Int} {k : Nat} (e : a = ah * 18446744073709551616 + al) (hk : ¬ 64 ≤ k) : al / 2 ^ (k % 64) % 2 = a / 2 ^ k % 2 := by
  rw [Nat.mod_eq_of_lt (by omega)]
  have h : (18446744073709551616 : Int) = 2 ^ (63 - k) * 2 * 2 ^ k := by
    rw [Int.mul_assoc, Int.mul_comm 2, ← Int.pow_succ, ← Int.pow_add, show 63 - k + (k + 1) = 64 by omega]; decide
  have p : (0 : Int) < 2 ^ k := Int.pow_pos (by decide)
  rw [e, h, show ah * (2 ^ (63 - k) * 2 * 2 ^ k) + al = al + ah * (2 ^ (63 - k) * 2) * 2 ^ k by grind, Int.add_mul_ediv_right _ _ (by omega), show ah * (2 ^ (63 - k) * 2) = ah * 2 ^ (63 - k) * 2 by grind, Int.add_mul_emod_self_right]
set_option maxRecDepth 100000 in
theorem l01Split_any (a d : Int) (w : World) (a0 : 0 ≤ a) (a1 : a < 42535295865117307932921825928971026432) (d0 : 1 ≤ d) (d1 : d ≤ 1000000000000000000) :
    Calls Try.prog 59 #[wd a, .int .i64 d] w fun r w' => r = .returned (.tuple #[wd (a / d), .int .i64 (a % d)]) ∧ Below w.heap.size w w' := by
  obtain ⟨ah, al, e1, e2, ba, bb, ea⟩ := mod_letters a0 a1
  rw [wd_of ea bb.1 bb.2]
  have EA := Lib.hid ea
  clear e1 e2 ea
  have ud : IntKind.u64.wrap d = d := by rw [IntKind.wrap_u64]; omega
  go_enter Try.func59, Try.ntmps59
  go_wp2
  go_loopw [7, 8] (fun r i wr => ∃ (k : Nat) (rv qv qh ql : Int), k ≤ 128 ∧ i = .int .i64 ((k : Int) - 1) ∧ r = .int .u64 rv ∧ Hid (a / 2 ^ k / d = qv ∧ a / 2 ^ k % d = rv ∧ qv = qh * 18446744073709551616 + ql) ∧ (0 ≤ qv ∧ qv < 42535295865117307932921825928971026432) ∧ (0 ≤ rv ∧ rv < d) ∧ (0 ≤ qh ∧ qh < 2305843009213693952) ∧ (0 ≤ ql ∧ ql < 18446744073709551616) ∧
      Hid (Blk wr w.heap.size #[.int .u64 ah, .int .u64 al] 59 ∧ Blk wr (w.heap.size + 1) #[.int .u64 0, .int .u64 0] 59 ∧ Blk wr (w.heap.size + 1 + 1) #[.int .u64 qh, .int .u64 ql] 59 ∧ Below w.heap.size w wr)) (fun _ i _ => (intOf i + 1).toNat)
  case atStart =>
    refine ⟨128, 0, 0, 0, 0, Nat.le_refl _, rfl, rfl, Lib.hid ⟨?_, ?_, by omega⟩, by omega, by omega, by omega, by omega, Lib.hid ⟨((Blk.new w _ _).alloc _).alloc _, (Blk.new' (by simp) _ _).alloc _, Blk.new' (by simp) _ _, bw_alloc (bw_alloc (bw_alloc (bw_refl _) _) _) _⟩⟩
    · rw [Int.ediv_eq_zero_of_lt a0 (Int.lt_trans a1 (by decide))]; simp
    · rw [Int.ediv_eq_zero_of_lt a0 (Int.lt_trans a1 (by decide))]; simp
  case round =>
    obtain ⟨k, rv, qv, qh, ql, hk, rfl, rfl, hst, bq, br, bqh, bql, hw⟩ := hrel
    match k, hk, hst with
    | 0, hk, hst =>
      have q20 := hw.out.2.2.1.cell 0 rfl
      have q21 := hw.out.2.2.1.cell 1 rfl
      have q10 := hw.out.2.1.cell 0 rfl
      have q11 := hw.out.2.1.cell 1 rfl
      have e10 := hw.out.2.1.free 0
      have e11 := hw.out.2.1.free 1
      have e1 : Hid (wd (a / d) = .agg #[.int .u64 qh, .int .u64 ql] ∧ a % d = rv) := Lib.hid (by
        obtain ⟨h1, h2, h3⟩ := hst.out
        rw [Int.pow_zero, Int.ediv_one] at h1 h2
        exact ⟨wd_of (by rw [h1]; exact h3) bql.1 bql.2, h2⟩)
      have ur : IntKind.i64.wrap rv = rv := by rw [IntKind.wrap_i64]; omega
      go_wp2
      refine bodyPost_ret (v := .tuple #[.agg #[.int .u64 qh, .int .u64 ql], .int .i64 rv]) (by simp [results, Try.results59, go_sem, q10, q11]) rfl ⟨by rw [e1.out.1, e1.out.2], ?_⟩
      exact bw_setCell (bw_setCell hw.out.2.2.2 (by simp <;> omega) _) (by simp <;> omega) _
    | k + 1, hk, hst =>
      have ek : ((k + 1 : Nat) : Int) - 1 = (k : Int) := by omega
      rw [ek]
      clear ek
      have q00 := hw.out.1.cell 0 rfl
      have q01 := hw.out.1.cell 1 rfl
      have q20 := hw.out.2.2.1.cell 0 rfl
      have q21 := hw.out.2.2.1.cell 1 rfl
      have e20 := hw.out.2.2.1.free 0
      have e21 := hw.out.2.2.1.free 1
      obtain ⟨b, hb⟩ : ∃ b, a / 2 ^ k % 2 = b := ⟨_, rfl⟩
      have bb2 : 0 ≤ b ∧ b < 2 := by omega
      have hstep := split_step d0 hst.out.1 hst.out.2.1 hb
      obtain ⟨Qh, hQh⟩ : ∃ x, x = qh * 2 + ql / 9223372036854775808 := ⟨_, rfl⟩
      obtain ⟨Ql, hQl⟩ : ∃ x, x = (ql * 2) % 18446744073709551616 := ⟨_, rfl⟩
      have vq : bits .or .u64 (qh * 2) (ql / 9223372036854775808) = Qh := by rw [u64_or_two (by omega) (by omega) (by omega) (by omega), hQh]
      have vl : IntKind.u64.wrap (ql * 2) = Ql := by rw [IntKind.wrap_u64, hQl]
      have vo : bits .or .u64 Ql 1 = Ql + 1 := by
        have := u64_or_two (c := 1) (x := Ql / 2) (by omega) (by omega) (by omega) (by omega)
        rw [show Ql / 2 * 2 = Ql by omega] at this
        exact this
      have vr : IntKind.u64.wrap (2 * rv + b) = 2 * rv + b := by rw [IntKind.wrap_u64]; omega
      have hqle : a / 2 ^ k / d ≤ a := by
        have p : (1 : Int) ≤ 2 ^ k := Int.pow_pos (by decide)
        have h1 : a / 2 ^ k ≤ a := Int.ediv_le_self _ a0
        have h2 : 0 ≤ a / 2 ^ k := Int.ediv_nonneg a0 (by omega)
        have h3 : a / 2 ^ k / d ≤ a / 2 ^ k := Int.ediv_le_self _ h2
        omega
      have HQ : Hid (qv = qh * 18446744073709551616 + ql) := Lib.hid hst.out.2.2
      have B8 : Hid (∀ x y : Int, Blk ((wr.setCell ⟨w.heap.size + 1 + 1, 0, none⟩ (.int .u64 x)).setCell ⟨w.heap.size + 1 + 1, 1, none⟩ (.int .u64 y)) w.heap.size #[.int .u64 ah, .int .u64 al] 59 ∧ Blk ((wr.setCell ⟨w.heap.size + 1 + 1, 0, none⟩ (.int .u64 x)).setCell ⟨w.heap.size + 1 + 1, 1, none⟩ (.int .u64 y)) (w.heap.size + 1) #[.int .u64 0, .int .u64 0] 59 ∧ Blk ((wr.setCell ⟨w.heap.size + 1 + 1, 0, none⟩ (.int .u64 x)).setCell ⟨w.heap.size + 1 + 1, 1, none⟩ (.int .u64 y)) (w.heap.size + 1 + 1) #[.int .u64 x, .int .u64 y] 59 ∧ Below w.heap.size w ((wr.setCell ⟨w.heap.size + 1 + 1, 0, none⟩ (.int .u64 x)).setCell ⟨w.heap.size + 1 + 1, 1, none⟩ (.int .u64 y))) := Lib.hid (fun x y =>
        ⟨(hw.out.1.far (by simp; omega) _).far (by simp; omega) _, (hw.out.2.1.far (by simp) _).far (by simp) _, hw.out.2.2.1.set2 _ _, bw_setCell (bw_setCell hw.out.2.2.2 (by simp; omega) _) (by simp; omega) _⟩)
      by_cases hge : d ≤ 2 * rv + b
      · obtain ⟨s1, s2⟩ := hstep.1 hge
        have wr2 : IntKind.u64.wrap (2 * rv + b - d) = 2 * rv + b - d := by rw [IntKind.wrap_u64]; omega
        have S1 : Hid (a / 2 ^ k / d = 2 * qv + 1 ∧ a / 2 ^ k % d = 2 * rv + b - d ∧ 2 * qv + 1 = Qh * 18446744073709551616 + (Ql + 1)) := Lib.hid ⟨s1, s2, by have := HQ.out; omega⟩
        rw [s1] at hqle
        have bQ1 : 0 ≤ Qh ∧ Qh < 2305843009213693952 := by have := HQ.out; omega
        have bQ2 : 0 ≤ Ql + 1 ∧ Ql + 1 < 18446744073709551616 := by omega
        have HB8 : Hid (Blk (((wr.setCell ⟨w.heap.size + 1 + 1, 0, none⟩ (.int .u64 Qh)).setCell ⟨w.heap.size + 1 + 1, 1, none⟩ (.int .u64 Ql)).setCell ⟨w.heap.size + 1 + 1, 1, none⟩ (.int .u64 (Ql + 1))) w.heap.size #[.int .u64 ah, .int .u64 al] 59 ∧ Blk (((wr.setCell ⟨w.heap.size + 1 + 1, 0, none⟩ (.int .u64 Qh)).setCell ⟨w.heap.size + 1 + 1, 1, none⟩ (.int .u64 Ql)).setCell ⟨w.heap.size + 1 + 1, 1, none⟩ (.int .u64 (Ql + 1))) (w.heap.size + 1) #[.int .u64 0, .int .u64 0] 59 ∧ Blk (((wr.setCell ⟨w.heap.size + 1 + 1, 0, none⟩ (.int .u64 Qh)).setCell ⟨w.heap.size + 1 + 1, 1, none⟩ (.int .u64 Ql)).setCell ⟨w.heap.size + 1 + 1, 1, none⟩ (.int .u64 (Ql + 1))) (w.heap.size + 1 + 1) #[.int .u64 Qh, .int .u64 (Ql + 1)] 59 ∧ Below w.heap.size w (((wr.setCell ⟨w.heap.size + 1 + 1, 0, none⟩ (.int .u64 Qh)).setCell ⟨w.heap.size + 1 + 1, 1, none⟩ (.int .u64 Ql)).setCell ⟨w.heap.size + 1 + 1, 1, none⟩ (.int .u64 (Ql + 1)))) := Lib.hid (by
          obtain ⟨x1, x2, x3, x4⟩ := B8.out Qh Ql
          exact ⟨x1.far (by simp; omega) _, x2.far (by simp) _, x3.set 1 _, bw_setCell x4 (by simp; omega) _⟩)
        by_cases h64 : 64 ≤ k
        · have vb : bits .and .u64 (ah / 2 ^ (k - 64)) 1 = b := by
            have h1 : 0 ≤ ah / 2 ^ (k - 64) := Int.ediv_nonneg ba.1 (Int.le_of_lt (Int.pow_pos (by decide)))
            have h2 : ah / 2 ^ (k - 64) ≤ ah := Int.ediv_le_self _ ba.1
            rw [u64_and_one h1 (by omega), bit_high EA.out bb.1 bb.2 h64, hb]
          clear hb hstep s1 s2 hQh hQl
          go_wp2
          go_roundw
          case rel => exact ⟨k, _, 2 * qv + 1, Qh, Ql + 1, by omega, rfl, rfl, S1, by omega, by omega, bQ1, bQ2, HB8⟩
          case measure => simp [intOf] <;> omega
        · have vb : bits .and .u64 (al / 2 ^ (k % 64)) 1 = b := by
            have h1 : 0 ≤ al / 2 ^ (k % 64) := Int.ediv_nonneg bb.1 (Int.le_of_lt (Int.pow_pos (by decide)))
            have h2 : al / 2 ^ (k % 64) ≤ al := Int.ediv_le_self _ bb.1
            rw [u64_and_one h1 (by omega), bit_low EA.out h64, hb]
          clear hb hstep s1 s2 hQh hQl
          go_wp2
          go_roundw
          case rel => exact ⟨k, _, 2 * qv + 1, Qh, Ql + 1, by omega, rfl, rfl, S1, by omega, by omega, bQ1, bQ2, HB8⟩
          case measure => simp [intOf] <;> omega
      · obtain ⟨s1, s2⟩ := hstep.2 (by omega)
        have S1 : Hid (a / 2 ^ k / d = 2 * qv ∧ a / 2 ^ k % d = 2 * rv + b ∧ 2 * qv = Qh * 18446744073709551616 + Ql) := Lib.hid ⟨s1, s2, by have := HQ.out; omega⟩
        rw [s1] at hqle
        have bQ1 : 0 ≤ Qh ∧ Qh < 2305843009213693952 := by have := HQ.out; omega
        have bQ2 : 0 ≤ Ql ∧ Ql < 18446744073709551616 := by omega
        have HB8 := Lib.hid (B8.out Qh Ql)
        by_cases h64 : 64 ≤ k
        · have vb : bits .and .u64 (ah / 2 ^ (k - 64)) 1 = b := by
            have h1 : 0 ≤ ah / 2 ^ (k - 64) := Int.ediv_nonneg ba.1 (Int.le_of_lt (Int.pow_pos (by decide)))
            have h2 : ah / 2 ^ (k - 64) ≤ ah := Int.ediv_le_self _ ba.1
            rw [u64_and_one h1 (by omega), bit_high EA.out bb.1 bb.2 h64, hb]
          clear hb hstep s1 s2 hQh hQl
          go_wp2
          go_roundw
          case rel => exact ⟨k, _, 2 * qv, Qh, Ql, by omega, rfl, rfl, S1, by omega, by omega, bQ1, bQ2, HB8⟩
          case measure => simp [intOf] <;> omega
        · have vb : bits .and .u64 (al / 2 ^ (k % 64)) 1 = b := by
            have h1 : 0 ≤ al / 2 ^ (k % 64) := Int.ediv_nonneg bb.1 (Int.le_of_lt (Int.pow_pos (by decide)))
            have h2 : al / 2 ^ (k % 64) ≤ al := Int.ediv_le_self _ bb.1
            rw [u64_and_one h1 (by omega), bit_low EA.out h64, hb]
          clear hb hstep s1 s2 hQh hQl
          go_wp2
          go_roundw
          case rel => exact ⟨k, _, 2 * qv, Qh, Ql, by omega, rfl, rfl, S1, by omega, by omega, bQ1, bQ2, HB8⟩
          case measure => simp [intOf] <;> omega
end Go.Proofs.Ytcmmcffglmcegaa

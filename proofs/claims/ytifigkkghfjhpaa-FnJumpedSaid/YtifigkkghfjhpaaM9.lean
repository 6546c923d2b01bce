/-
  A congruence's step and the step of its back congruence. Plain numbers, no program.
-/
import Derived.Test.YtifigkkghfjhpaaM3
namespace Go.Proofs.Ytifigkkghfjhpaa
set_option linter.unusedVariables false

theorem back_step {m f a i x : Int} (h : f * i % m = 1) (x0 : 0 ≤ x) (x1 : x < m) : (i * ((f * x + a) % m) + -a % m * i % m) % m = x := by
  have e1 := Int.emod_add_mul_ediv (f * x + a) m
  have e2 := Int.emod_add_mul_ediv (-a) m
  have e3 := Int.emod_add_mul_ediv (-a % m * i) m
  have e4 := Int.emod_add_mul_ediv (f * i) m
  rw [h] at e4
  have e : (i * ((f * x + a) % m) + -a % m * i % m) % m = x % m := by
    apply emod_eq_of (c := f * i / m * x - i * ((f * x + a) / m) - (-a / m) * i - (-a % m * i) / m)
    grind
  rw [e, Int.emod_eq_of_lt x0 x1]
end Go.Proofs.Ytifigkkghfjhpaa

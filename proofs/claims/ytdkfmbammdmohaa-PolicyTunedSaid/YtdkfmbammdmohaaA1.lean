/- Contracts of the closures of package policy. -/
import Derived.Test.YtdkfmbammdmohaaPPolicyCostsx8
namespace Go.Proofs.Ytdkfmbammdmohaa.PPolicyCosts
open Go.RowKit Go.Proofs.YtdkfmbammdmohaaW.PrintWords Go.Proofs.YtdkfmbammdmohaaW.PrintLast Go.Proofs.YtdkfmbammdmohaaW.PrintMore
attribute [local go_sem] max2_int min2_int max_two min_two max_three min_three max_four min_four
set_option linter.unusedVariables false
set_option linter.unusedSimpArgs false

def outB (a b : Int) : Bool := decide (a < 0) || decide (a > b)
theorem outB_def (a b : Int) : outB a b = (decide (a < 0) || decide (a > b)) := rfl

theorem outside_any (a b : Int) (w : World) : Calls Try.prog 24 #[.int .i64 a, .int .i64 b] w fun e w' => e = .returned (.bool (outB a b)) ∧ w = w' := by
  rw [outB_def]
  go_enter Try.func24, Try.ntmps24
  by_cases h : a < 0
  · go_wp2
    go_ret
    exact ⟨by simp [h], rfl⟩
  · go_wp2
    go_ret
    have : 0 ≤ a := by omega
    exact ⟨by simp; omega, rfl⟩

/-- the use is no proper one -/
def wrongU (x : S73) : Bool := decide (x.f0 < 0) || decide (x.f0 ≥ 1024) || outB x.f1 1000000000 || outB x.f2 1000000000 || decide (x.f1 ≥ x.f2)

theorem wrong_any (x : S73) (w : World) : Calls Try.prog 61 #[.agg #[.int .i64 x.f0, .int .i64 x.f1, .int .i64 x.f2]] w fun e w' => e = .returned (.bool (wrongU x)) ∧ Below w.heap.size w w' := by
  obtain ⟨p, f, t⟩ := x
  simp only [wrongU]
  go_enter Try.func61, Try.ntmps61
  by_cases h0 : p < 0
  · go_wp2_with fail
    go_ret
    exact ⟨by simp [h0], (Below.refl _ _).alloc (Nat.le_refl _) _⟩
  · by_cases h1 : p ≥ 1024
    · go_wp2_with fail
      go_ret
      exact ⟨by simp [h1], (Below.refl _ _).alloc (Nat.le_refl _) _⟩
    · cases h2 : outB f 1000000000 with
      | true =>
        have H := outside_any f 1000000000 (w.alloc (Obj.cells #[Value.int IntKind.i64 p, Value.int IntKind.i64 f, Value.int IntKind.i64 t] 73))
        rw [h2] at H
        go_wp2_with (go_at_call 24; refine H.mono ?_; rintro e w' ⟨rfl, rfl⟩)
        go_ret
        exact ⟨by simp, (Below.refl _ _).alloc (Nat.le_refl _) _⟩
      | false =>
        have H := outside_any f 1000000000 (w.alloc (Obj.cells #[Value.int IntKind.i64 p, Value.int IntKind.i64 f, Value.int IntKind.i64 t] 73))
        rw [h2] at H
        cases h3 : outB t 1000000000 with
        | true =>
          have H3 := outside_any t 1000000000 (w.alloc (Obj.cells #[Value.int IntKind.i64 p, Value.int IntKind.i64 f, Value.int IntKind.i64 t] 73))
          rw [h3] at H3
          go_wp2_with fail
          refine H.mono ?_; rintro e w' ⟨rfl, rfl⟩
          go_wp2_with fail
          refine H3.mono ?_; rintro e w' ⟨rfl, rfl⟩
          go_wp2_with fail
          go_ret
          exact ⟨by simp, (Below.refl _ _).alloc (Nat.le_refl _) _⟩
        | false =>
          have H3 := outside_any t 1000000000 (w.alloc (Obj.cells #[Value.int IntKind.i64 p, Value.int IntKind.i64 f, Value.int IntKind.i64 t] 73))
          rw [h3] at H3
          go_wp2_with fail
          refine H.mono ?_; rintro e w' ⟨rfl, rfl⟩
          go_wp2_with fail
          refine H3.mono ?_; rintro e w' ⟨rfl, rfl⟩
          go_wp2_with fail
          go_ret
          exact ⟨by simp [h0, h1]; omega, (Below.refl _ _).alloc (Nat.le_refl _) _⟩

theorem agedC_any (B : Nat) (age left : Int) (w : World) (hc : w.cell? ⟨B, 0, none⟩ = some (.int .i64 age)) :
    Calls Try.prog 43 #[.int .i64 left, .pointer (some ⟨B, 0, none⟩)] w fun e w' => e = .returned (.int .i64 (mn age left)) ∧ w = w' := by
  go_enter Try.func43, Try.ntmps43
  unfold mn
  by_cases h : left < age
  · go_wp2
    go_ret
    exact ⟨by simp [h], rfl⟩
  · go_wp2
    go_ret
    exact ⟨by simp [h], rfl⟩

theorem isNaN64_any (a : Int) (w : World) : Calls Try.prog 67 #[.int .i64 a] w fun e w' => e = .returned (.bool false) ∧ w = w' := by
  go_enter Try.func67, Try.ntmps67
  go_wp2
  go_ret
  exact ⟨by simp, rfl⟩
theorem isNaN_any (a : Int) (w : World) : Calls Try.prog 68 #[.int .i64 a] w fun e w' => e = .returned (.bool false) ∧ w = w' := by
  go_enter Try.func68, Try.ntmps68
  go_wp2
  go_ret
  exact ⟨by simp, rfl⟩

def cmpI (a b : Int) : Int := if a < b then -1 else if b < a then 1 else 0
theorem cmp64_any (a b : Int) (w : World) : Calls Try.prog 46 #[.int .i64 a, .int .i64 b] w fun e w' => e = .returned (.int .i64 (cmpI a b)) ∧ w = w' := by
  go_enter Try.func46, Try.ntmps46
  unfold cmpI
  by_cases h : a < b
  · go_wp2_with (go_at_call 67; refine (isNaN64_any _ _).mono ?_; rintro e w' ⟨rfl, rfl⟩)
    go_ret
    exact ⟨by simp [h], rfl⟩
  · by_cases h2 : b < a
    · go_wp2_with (go_at_call 67; refine (isNaN64_any _ _).mono ?_; rintro e w' ⟨rfl, rfl⟩)
      go_ret
      exact ⟨by simp [h, h2], rfl⟩
    · go_wp2_with (go_at_call 67; refine (isNaN64_any _ _).mono ?_; rintro e w' ⟨rfl, rfl⟩)
      go_ret
      exact ⟨by simp [h, h2], rfl⟩
theorem cmp_any (a b : Int) (w : World) : Calls Try.prog 47 #[.int .i64 a, .int .i64 b] w fun e w' => e = .returned (.int .i64 (cmpI a b)) ∧ w = w' := by
  go_enter Try.func47, Try.ntmps47
  unfold cmpI
  by_cases h : a < b
  · go_wp2_with (go_at_call 68; refine (isNaN_any _ _).mono ?_; rintro e w' ⟨rfl, rfl⟩)
    go_ret
    exact ⟨by simp [h], rfl⟩
  · by_cases h2 : b < a
    · go_wp2_with (go_at_call 68; refine (isNaN_any _ _).mono ?_; rintro e w' ⟨rfl, rfl⟩)
      go_ret
      exact ⟨by simp [h, h2], rfl⟩
    · go_wp2_with (go_at_call 68; refine (isNaN_any _ _).mono ?_; rintro e w' ⟨rfl, rfl⟩)
      go_ret
      exact ⟨by simp [h, h2], rfl⟩

end Go.Proofs.Ytdkfmbammdmohaa.PPolicyCosts

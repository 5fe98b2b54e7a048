/- Contracts of closures for the sorts. -/
import Derived.Test.YtdkfmbammdmohaaX3
import Derived.Test.YtdkfmbammdmohaaA1
import Derived.Deep.RegionWith
import Derived.Deep.DeepMust
import Derived.Shelf.GgSortFunc.InsertionK
namespace Go.Proofs.Ytdkfmbammdmohaa.PPolicyCosts
open Go.RowKit Go.Proofs.YtdkfmbammdmohaaW.PrintWords Go.Proofs.YtdkfmbammdmohaaW.PrintLast Go.Proofs.YtdkfmbammdmohaaW.PrintMore
open Go.Lib Go.Sort
attribute [local go_sem] max2_int min2_int max_two min_two max_three min_three max_four min_four
set_option linter.unusedVariables false
set_option linter.unusedSimpArgs false

def orI (a b : Int) : Int := if a = 0 then b else a

theorem or_two (g : Nat) (a b : Int) (w : World) (h0 : w.cell? ⟨g, 0, none⟩ = some (.int .i64 a)) (h1 : w.cell? ⟨g, 1, none⟩ = some (.int .i64 b)) :
    Calls Try.prog 63 #[.slice (some ⟨g, 0, none⟩) 2 2] w fun e w' => e = .returned (.int .i64 (orI a b)) ∧ w' = w := by
  unfold orI
  go_enter Try.func63, Try.ntmps63
  go_wp2
  by_cases ha : a = 0
  · subst ha
    by_cases hb : b = 0
    · subst hb
      refine wp_loop_rounds 3 ?_; rw [rounds_succ]
      go_wp2
      rw [rounds_succ]
      go_wp2
      rw [rounds_succ]
      go_wp2
      go_ret
      exact ⟨rfl, rfl⟩
    · have hb1 : (b != 0) = true := by simpa using hb
      refine wp_loop_rounds 2 ?_; rw [rounds_succ]
      go_wp2
      rw [rounds_succ]
      go_wp2
      go_ret
      exact ⟨rfl, rfl⟩
  · have hb1 : (a != 0) = true := by simpa using ha
    refine wp_loop_rounds 1 ?_; rw [rounds_succ]
    go_wp2
    go_ret
    exact ⟨by simp [ha], rfl⟩

def cmpGap (x y : S52) : Int := orI (cmpI x.f1 y.f1) (cmpI x.f0 y.f0)

def GrewInt (W : World) (v : Int) (e : Ending) (w' : World) : Prop := e = .returned (.int .i64 v) ∧ ∃ q os', w' = grow (W.drewN q) os'

set_option maxHeartbeats 1000000 in
theorem cmpGap_any (x y : S52) (W : World) : Calls Try.prog 65 #[.agg #[.int .i64 x.f0, .int .i64 x.f1, .int .i64 x.f2], .agg #[.int .i64 y.f0, .int .i64 y.f1, .int .i64 y.f2]] W (GrewInt W (cmpGap x y)) := by
  obtain ⟨p, f, t⟩ := x
  obtain ⟨p', f', t'⟩ := y
  simp only [cmpGap]
  go_enter Try.func65, Try.ntmps65
  go_wp2
  go_region_held3 (fun w' => w'.cell? ⟨W.heap.size, 0, none⟩ = some (.int .i64 p) ∧ w'.cell? ⟨W.heap.size, 1, none⟩ = some (.int .i64 f) ∧ w'.cell? ⟨W.heap.size + 1, 0, none⟩ = some (.int .i64 p') ∧ w'.cell? ⟨W.heap.size + 1, 1, none⟩ = some (.int .i64 f'))
    (first | go_keep | (refine ⟨?_, ?_, ?_, ?_⟩ <;> go_simp))
    (first | (go_at_call 46; refine (cmp64_any _ _ _).mono ?_; rintro e w' ⟨rfl, rfl⟩) | (go_at_call 47; refine (cmp_any _ _ _).mono ?_; rintro e w' ⟨rfl, rfl⟩) | (go_at_call 63; refine (or_two _ (cmpI f f') (cmpI p p') _ ?c1 ?c2).mono ?_; (case c1 => go_simp); (case c2 => go_simp); rintro e w1 ⟨rfl, rfl⟩))
  go_wp2
  go_ret
  exact ⟨rfl, 1, _, by rw [alloc_eq_grow, alloc_eq_grow, alloc_eq_grow, grow_grow, grow_grow]; rfl⟩

structure S90 where
  f0 : Int
  f1 : Bool
  f2 : Int
structure S98 where
  f0 : Int
  f1 : Int
instance : Inhabited S73 := ⟨⟨0, 0, 0⟩⟩
instance : Inhabited S52 := ⟨⟨0, 0, 0⟩⟩
instance : Inhabited S90 := ⟨⟨0, false, 0⟩⟩
instance : Inhabited S98 := ⟨⟨0, 0⟩⟩
def e73 (x : S73) : List Value := [.int .i64 x.f0, .int .i64 x.f1, .int .i64 x.f2]
def e52 (x : S52) : List Value := [.int .i64 x.f0, .int .i64 x.f1, .int .i64 x.f2]
def e90 (x : S90) : List Value := [.int .i64 x.f0, .bool x.f1, .int .i64 x.f2]
def e98 (x : S98) : List Value := [.int .i64 x.f0, .int .i64 x.f1]

/-- the order of steps: first by the tick, then those that begin, then by the page -/
def cmpStep (x y : S90) : Int := if cmpI x.f0 y.f0 ≠ 0 then cmpI x.f0 y.f0 else if x.f1 ≠ y.f1 then (if x.f1 = true then -1 else 1) else cmpI x.f2 y.f2

set_option maxHeartbeats 1000000 in
theorem cmpStep_any (x y : S90) (W : World) : Calls Try.prog 45 #[.agg #[.int .i64 x.f0, .bool x.f1, .int .i64 x.f2], .agg #[.int .i64 y.f0, .bool y.f1, .int .i64 y.f2]] W (GrewInt W (cmpStep x y)) := by
  obtain ⟨a, b, p⟩ := x
  obtain ⟨a', b', p'⟩ := y
  simp only [cmpStep]
  generalize hc : cmpI a a' = c
  have hC := fun w => cmp64_any a a' w
  rw [hc] at hC
  go_enter Try.func45, Try.ntmps45
  by_cases h0 : c = 0
  · subst h0
    cases b <;> cases b'
    all_goals
      go_wp2_with (first | (go_at_call 46; refine (hC _).mono ?_; rintro e w' ⟨rfl, rfl⟩) | (go_at_call 47; refine (cmp_any _ _ _).mono ?_; rintro e w' ⟨rfl, rfl⟩))
      go_ret
      exact ⟨by simp, 0, _, by rw [alloc_eq_grow, alloc_eq_grow, grow_grow]; rfl⟩
  · have hb1 : (c != 0) = true := by simpa using h0
    go_wp2_with (first | (go_at_call 46; refine (hC _).mono ?_; rintro e w' ⟨rfl, rfl⟩) | (go_at_call 47; refine (cmp_any _ _ _).mono ?_; rintro e w' ⟨rfl, rfl⟩))
    go_ret
    exact ⟨by simp [h0], 0, _, by rw [alloc_eq_grow, alloc_eq_grow, grow_grow]; rfl⟩

end Go.Proofs.Ytdkfmbammdmohaa.PPolicyCosts

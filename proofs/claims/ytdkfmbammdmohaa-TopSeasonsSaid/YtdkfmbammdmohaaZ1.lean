/- The calls of far and saved come to what their Lean functions answer. Lines of a text that print.sh wrote for this claim, without those functions that fell. -/
import Derived.Test.YtdkfmbammdmohaaPPolicyCostsx0
import Derived.Test.YtdkfmbammdmohaaPPolicyCostsx8
import Derived.Deep.RegionWith
import Derived.Deep.DeepMust
import Derived.Shelf.GgSortFunc.InsertionK
namespace Go.Proofs.Ytdkfmbammdmohaa.PPolicyCosts
open Go.RowKit Go.Proofs.YtdkfmbammdmohaaW.PrintWords Go.Proofs.YtdkfmbammdmohaaW.PrintLast Go.Proofs.YtdkfmbammdmohaaW.PrintMore
attribute [local go_sem] max2_int min2_int max_two min_two max_three min_three max_four min_four   -- for this text's walks alone
set_option linter.unusedVariables false
set_option linter.unusedSimpArgs false

/-! ### polderlaw31_far: function 7 -/
def polderlaw31_far.f (l0 : List (S73)) (a1 : Int) : Option (Bool) := if (l0.length : Int) > a1 then (if (l0.length : Int) ≤ 200 then (some true) else (some (decide ((l0.length : Int) > 210)))) else (some (decide ((l0.length : Int) > 210)))
set_option maxHeartbeats 8000000 in
set_option maxRecDepth 100000 in
theorem polderlaw31_far.calls (A0 : Option Addr) (c0 : Nat) (l0 : List (S73)) (a1 : Int) (r : Bool) (w : World) (hr0 : Kd.C k73 w A0 l0.length l0) (hc0 : l0.length ≤ c0) (h : polderlaw31_far.f l0 a1 = some r) :
    Calls Try.prog 7 #[.slice A0 l0.length c0, .int .i64 a1] w fun e w' => e = .returned (.bool r) ∧ Drawn0 w w' := by
  have HR0 := Aside0.mk hr0
  have HC0 := Aside0.mk hc0
  clear hr0 hc0
  have H : (if (l0.length : Int) > a1 then (if (l0.length : Int) ≤ 200 then (some true) else (some (decide ((l0.length : Int) > 210)))) else (some (decide ((l0.length : Int) > 210)))) = some r := h
  clear h
  by_cases c3 : (l0.length : Int) > a1
  · rw [if_pos c3] at H
    have c3b0 : decide (a1 < (l0.length : Int)) = true := decide_eq_true c3
    clear c3
    by_cases c4 : (l0.length : Int) ≤ 200
    · rw [if_pos c4] at H
      have c4b0 : decide ((l0.length : Int) ≤ 200) = true := decide_eq_true c4
      have c4b1 : decide (l0.length ≤ 200) = true := decide_eq_true (by omega)
      clear c4
      obtain rfl := Option.some.inj H
      go_enter Try.func7, Try.ntmps7
      go_wp2
      go_ret
      exact ⟨by first | rfl | (simp; done) | (simp [*]; done), by repeat (first | exact Drawn0.refl _ | apply Drawn0.step)⟩
    · rw [if_neg c4] at H
      have c4b0 : decide ((l0.length : Int) ≤ 200) = false := decide_eq_false c4
      have c4b1 : decide (l0.length ≤ 200) = false := decide_eq_false (by omega)
      clear c4
      obtain rfl := Option.some.inj H
      go_enter Try.func7, Try.ntmps7
      go_wp2
      go_ret
      exact ⟨by first | rfl | (simp; done) | (simp [*]; done), by repeat (first | exact Drawn0.refl _ | apply Drawn0.step)⟩
  · rw [if_neg c3] at H
    have c3b0 : decide (a1 < (l0.length : Int)) = false := decide_eq_false c3
    clear c3
    obtain rfl := Option.some.inj H
    go_enter Try.func7, Try.ntmps7
    go_wp2
    go_ret
    exact ⟨by first | rfl | (simp; done) | (simp [*]; done), by repeat (first | exact Drawn0.refl _ | apply Drawn0.step)⟩

/-! ### policy_saved: function 31 -/
def policy_saved.f (a0_0 : Int) (a0_1 : Int) (a1_0 : Int) (a1_1 : Int) (a1_2 : Int) : Option (Int) := some (wrap64 (a0_1 - (wrap64 ((wrap64 (a1_2 - a1_1)) * a0_0))))
set_option maxHeartbeats 8000000 in
set_option maxRecDepth 100000 in
theorem policy_saved.calls (a0_0 : Int) (a0_1 : Int) (a1_0 : Int) (a1_1 : Int) (a1_2 : Int) (r : Int) (w : World) (h : policy_saved.f a0_0 a0_1 a1_0 a1_1 a1_2 = some r) :
    Calls Try.prog 31 #[.agg #[.int .i64 a0_0, .int .i64 a0_1], .agg #[.int .i64 a1_0, .int .i64 a1_1, .int .i64 a1_2]] w fun e w' => e = .returned (.int .i64 r) ∧ Below w.heap.size w w' := by
  have hu24 := Try.underlying24
  have hu52 := Try.underlying52
  have HB := Aside0.mk (Below.refl w.heap.size w)
  have H : (some (wrap64 (a0_1 - (wrap64 ((wrap64 (a1_2 - a1_1)) * a0_0))))) = some r := h
  clear h
  obtain rfl := Option.some.inj H
  go_enter Try.func31, Try.ntmps31
  go_wp2_with (first | ((with_reducible refine gate_dst (N := 2) rfl ?_); refine box_event ?hg (N := 2) ?hd (cs := #[.int .i64 a0_0, .int .i64 a0_1]) (t := 24) ?hr ?_; (case hd => rfl); (case hg => rfl); (case hr => first | (go_simp; done) | (go_simp; rfl)); intro gb110 hg w3 hbox hb; have n0_ := Aside0.mk (below_step (by repeat (first | (with_reducible first | exact HB.out | apply below_alloc | apply pw_below_drewN | apply below_drew1) | exact HB.out)) hb); have n1_ := Aside0.mk (hbox); have n2_ := Aside0.mk ((by rw [hg]; exact (below_size (by repeat (first | (with_reducible first | exact HB.out | apply below_alloc | apply pw_below_drewN | apply below_drew1) | exact HB.out))) : w.heap.size ≤ gb110)); have n3_ := Aside0.mk ((by rw [hg]; exact (below_size (by repeat (first | (with_reducible first | exact HB.out | apply below_alloc | apply pw_below_drewN | apply below_drew1) | exact HB.out))) : w.heap.size ≤ gb110)); clear HB; have HB := n0_; have BK110 := n1_; have GW110 := n2_; have GE110 := n3_; clear n0_ n1_ n2_ n3_; clear hb hbox hg) | ((with_reducible refine gate_dst (N := 3) rfl ?_); refine box_event ?hg (N := 3) ?hd (cs := #[.int .i64 a1_0, .int .i64 a1_1, .int .i64 a1_2]) (t := 52) ?hr ?_; (case hd => rfl); (case hg => rfl); (case hr => first | (go_simp; done) | (go_simp; rfl)); intro gb111 hg w4 hbox hb; have n0_ := Aside0.mk (blk_below (g := gb110) (o := .cells #[.int .i64 a0_0, .int .i64 a0_1] 24 (0, 0)) (by (with_reducible repeat (first | refine blk_drewN ?_ _ | refine blk_drew ?_ | refine blk_alloc ?_ _)); exact BK110.out) hb); have n1_ := Aside0.mk (below_step (by repeat (first | (with_reducible first | exact HB.out | apply below_alloc | apply pw_below_drewN | apply below_drew1 | refine below_set ?_ GE110.out) | exact HB.out)) hb); have n2_ := Aside0.mk (hbox); have n3_ := Aside0.mk ((by rw [hg]; exact (below_size (by repeat (first | (with_reducible first | exact HB.out | apply below_alloc | apply pw_below_drewN | apply below_drew1 | refine below_set ?_ GE110.out) | exact HB.out))) : w.heap.size ≤ gb111)); have n4_ := Aside0.mk ((by rw [hg]; exact (below_size (by repeat (first | (with_reducible first | exact HB.out | apply below_alloc | apply pw_below_drewN | apply below_drew1 | refine below_set ?_ GE110.out) | exact HB.out))) : w.heap.size ≤ gb111)); have n5_ := Aside0.mk ((by rw [hg]; exact Nat.ne_of_lt (blk_lt (g := gb110) (o := .cells #[.int .i64 a0_0, .int .i64 a0_1] 24 (0, 0)) (by (with_reducible repeat (first | refine blk_drewN ?_ _ | refine blk_drew ?_ | refine blk_alloc ?_ _)); exact BK110.out)) : gb110 ≠ gb111)); have n6_ := Aside0.mk ((by rw [hg]; exact Nat.ne_of_gt (blk_lt (g := gb110) (o := .cells #[.int .i64 a0_0, .int .i64 a0_1] 24 (0, 0)) (by (with_reducible repeat (first | refine blk_drewN ?_ _ | refine blk_drew ?_ | refine blk_alloc ?_ _)); exact BK110.out)) : gb111 ≠ gb110)); clear BK110; clear HB; have BK110 := n0_; have HB := n1_; have BK111 := n2_; have GW111 := n3_; have GE111 := n4_; have NB110_111 := n5_; have NB111_110 := n6_; clear n0_ n1_ n2_ n3_ n4_ n5_ n6_; clear hb hbox hg; have hnb5 := NB110_111.out; have hnc5 := NB111_110.out; have hcz6_0 : w4.cell? ⟨gb110, 0, none⟩ = some (.int .i64 a0_0) := (blk_cell BK110.out 0).trans rfl; have hcz6_1 : w4.cell? ⟨gb110, 1, none⟩ = some (.int .i64 a0_1) := (blk_cell BK110.out 1).trans rfl; have hfz6_0 := blk_frozen BK110.out 0; have hfz6_1 := blk_frozen BK110.out 1; have hcz7_0 : w4.cell? ⟨gb111, 0, none⟩ = some (.int .i64 a1_0) := (blk_cell BK111.out 0).trans rfl; have hcz7_1 : w4.cell? ⟨gb111, 1, none⟩ = some (.int .i64 a1_1) := (blk_cell BK111.out 1).trans rfl; have hcz7_2 : w4.cell? ⟨gb111, 2, none⟩ = some (.int .i64 a1_2) := (blk_cell BK111.out 2).trans rfl; have hfz7_0 := blk_frozen BK111.out 0; have hfz7_1 := blk_frozen BK111.out 1; have hfz7_2 := blk_frozen BK111.out 2))
  go_ret
  exact ⟨by first | rfl | (simp [errW_none, errW_some] <;> rfl) | (simp [*, errW_none, errW_some] <;> rfl), by repeat (first | (with_reducible first | exact HB.out | apply below_alloc | apply pw_below_drewN | apply below_drew1 | refine below_set ?_ GE110.out | refine below_set ?_ GE111.out) | exact HB.out)⟩


end Go.Proofs.Ytdkfmbammdmohaa.PPolicyCosts

namespace Go.Proofs.Ytdkfmbammdmohaa.PPolicyCosts
open Go.RowKit Go.Proofs.YtdkfmbammdmohaaW.PrintWords Go.Proofs.YtdkfmbammdmohaaW.PrintLast Go.Proofs.YtdkfmbammdmohaaW.PrintMore
attribute [local go_sem] max2_int min2_int max_two min_two max_three min_three max_four min_four
set_option linter.unusedVariables false
set_option linter.unusedSimpArgs false

def outB (a b : Int) : Bool := decide (a < 0) || decide (a > b)
theorem outB_def (a b : Int) : outB a b = (decide (a < 0) || decide (a > b)) := rfl

theorem outside_any (a b : Int) (w : World) : Calls Try.prog 24 #[.int .i64 a, .int .i64 b] w fun e w' => e = .returned (.bool (outB a b)) ∧ w = w' := by
  rw [outB_def]
  go_enter Try.func24, Try.ntmps24
  by_cases h : a < 0
  · go_wp2
    go_ret
    exact ⟨by simp [h], rfl⟩
  · go_wp2
    go_ret
    have : 0 ≤ a := by omega
    exact ⟨by simp; omega, rfl⟩

/-- the use is no proper one -/
def wrongU (x : S73) : Bool := decide (x.f0 < 0) || decide (x.f0 ≥ 1024) || outB x.f1 1000000000 || outB x.f2 1000000000 || decide (x.f1 ≥ x.f2)

theorem wrong_any (x : S73) (w : World) : Calls Try.prog 61 #[.agg #[.int .i64 x.f0, .int .i64 x.f1, .int .i64 x.f2]] w fun e w' => e = .returned (.bool (wrongU x)) ∧ Below w.heap.size w w' := by
  obtain ⟨p, f, t⟩ := x
  simp only [wrongU]
  go_enter Try.func61, Try.ntmps61
  by_cases h0 : p < 0
  · go_wp2_with fail
    go_ret
    exact ⟨by simp [h0], (Below.refl _ _).alloc (Nat.le_refl _) _⟩
  · by_cases h1 : p ≥ 1024
    · go_wp2_with fail
      go_ret
      exact ⟨by simp [h1], (Below.refl _ _).alloc (Nat.le_refl _) _⟩
    · cases h2 : outB f 1000000000 with
      | true =>
        have H := outside_any f 1000000000 (w.alloc (Obj.cells #[Value.int IntKind.i64 p, Value.int IntKind.i64 f, Value.int IntKind.i64 t] 73))
        rw [h2] at H
        go_wp2_with (go_at_call 24; refine H.mono ?_; rintro e w' ⟨rfl, rfl⟩)
        go_ret
        exact ⟨by simp, (Below.refl _ _).alloc (Nat.le_refl _) _⟩
      | false =>
        have H := outside_any f 1000000000 (w.alloc (Obj.cells #[Value.int IntKind.i64 p, Value.int IntKind.i64 f, Value.int IntKind.i64 t] 73))
        rw [h2] at H
        cases h3 : outB t 1000000000 with
        | true =>
          have H3 := outside_any t 1000000000 (w.alloc (Obj.cells #[Value.int IntKind.i64 p, Value.int IntKind.i64 f, Value.int IntKind.i64 t] 73))
          rw [h3] at H3
          go_wp2_with fail
          refine H.mono ?_; rintro e w' ⟨rfl, rfl⟩
          go_wp2_with fail
          refine H3.mono ?_; rintro e w' ⟨rfl, rfl⟩
          go_wp2_with fail
          go_ret
          exact ⟨by simp, (Below.refl _ _).alloc (Nat.le_refl _) _⟩
        | false =>
          have H3 := outside_any t 1000000000 (w.alloc (Obj.cells #[Value.int IntKind.i64 p, Value.int IntKind.i64 f, Value.int IntKind.i64 t] 73))
          rw [h3] at H3
          go_wp2_with fail
          refine H.mono ?_; rintro e w' ⟨rfl, rfl⟩
          go_wp2_with fail
          refine H3.mono ?_; rintro e w' ⟨rfl, rfl⟩
          go_wp2_with fail
          go_ret
          exact ⟨by simp [h0, h1]; omega, (Below.refl _ _).alloc (Nat.le_refl _) _⟩

theorem agedC_any (B : Nat) (age left : Int) (w : World) (hc : w.cell? ⟨B, 0, none⟩ = some (.int .i64 age)) :
    Calls Try.prog 43 #[.int .i64 left, .pointer (some ⟨B, 0, none⟩)] w fun e w' => e = .returned (.int .i64 (mn age left)) ∧ w = w' := by
  go_enter Try.func43, Try.ntmps43
  unfold mn
  by_cases h : left < age
  · go_wp2
    go_ret
    exact ⟨by simp [h], rfl⟩
  · go_wp2
    go_ret
    exact ⟨by simp [h], rfl⟩

theorem isNaN64_any (a : Int) (w : World) : Calls Try.prog 67 #[.int .i64 a] w fun e w' => e = .returned (.bool false) ∧ w = w' := by
  go_enter Try.func67, Try.ntmps67
  go_wp2
  go_ret
  exact ⟨by simp, rfl⟩
theorem isNaN_any (a : Int) (w : World) : Calls Try.prog 68 #[.int .i64 a] w fun e w' => e = .returned (.bool false) ∧ w = w' := by
  go_enter Try.func68, Try.ntmps68
  go_wp2
  go_ret
  exact ⟨by simp, rfl⟩

def cmpI (a b : Int) : Int := if a < b then -1 else if b < a then 1 else 0
theorem cmp64_any (a b : Int) (w : World) : Calls Try.prog 46 #[.int .i64 a, .int .i64 b] w fun e w' => e = .returned (.int .i64 (cmpI a b)) ∧ w = w' := by
  go_enter Try.func46, Try.ntmps46
  unfold cmpI
  by_cases h : a < b
  · go_wp2_with (go_at_call 67; refine (isNaN64_any _ _).mono ?_; rintro e w' ⟨rfl, rfl⟩)
    go_ret
    exact ⟨by simp [h], rfl⟩
  · by_cases h2 : b < a
    · go_wp2_with (go_at_call 67; refine (isNaN64_any _ _).mono ?_; rintro e w' ⟨rfl, rfl⟩)
      go_ret
      exact ⟨by simp [h, h2], rfl⟩
    · go_wp2_with (go_at_call 67; refine (isNaN64_any _ _).mono ?_; rintro e w' ⟨rfl, rfl⟩)
      go_ret
      exact ⟨by simp [h, h2], rfl⟩
theorem cmp_any (a b : Int) (w : World) : Calls Try.prog 47 #[.int .i64 a, .int .i64 b] w fun e w' => e = .returned (.int .i64 (cmpI a b)) ∧ w = w' := by
  go_enter Try.func47, Try.ntmps47
  unfold cmpI
  by_cases h : a < b
  · go_wp2_with (go_at_call 68; refine (isNaN_any _ _).mono ?_; rintro e w' ⟨rfl, rfl⟩)
    go_ret
    exact ⟨by simp [h], rfl⟩
  · by_cases h2 : b < a
    · go_wp2_with (go_at_call 68; refine (isNaN_any _ _).mono ?_; rintro e w' ⟨rfl, rfl⟩)
      go_ret
      exact ⟨by simp [h, h2], rfl⟩
    · go_wp2_with (go_at_call 68; refine (isNaN_any _ _).mono ?_; rintro e w' ⟨rfl, rfl⟩)
      go_ret
      exact ⟨by simp [h, h2], rfl⟩

end Go.Proofs.Ytdkfmbammdmohaa.PPolicyCosts

namespace Go.Proofs.Ytdkfmbammdmohaa.PPolicyCosts
open Go.RowKit Go.Proofs.YtdkfmbammdmohaaW.PrintWords Go.Proofs.YtdkfmbammdmohaaW.PrintLast Go.Proofs.YtdkfmbammdmohaaW.PrintMore
open Go.Lib Go.Sort
attribute [local go_sem] max2_int min2_int max_two min_two max_three min_three max_four min_four
set_option linter.unusedVariables false
set_option linter.unusedSimpArgs false

def orI (a b : Int) : Int := if a = 0 then b else a

theorem or_two (g : Nat) (a b : Int) (w : World) (h0 : w.cell? ⟨g, 0, none⟩ = some (.int .i64 a)) (h1 : w.cell? ⟨g, 1, none⟩ = some (.int .i64 b)) :
    Calls Try.prog 63 #[.slice (some ⟨g, 0, none⟩) 2 2] w fun e w' => e = .returned (.int .i64 (orI a b)) ∧ w' = w := by
  unfold orI
  go_enter Try.func63, Try.ntmps63
  go_wp2
  by_cases ha : a = 0
  · subst ha
    by_cases hb : b = 0
    · subst hb
      refine wp_loop_rounds 3 ?_; rw [rounds_succ]
      go_wp2
      rw [rounds_succ]
      go_wp2
      rw [rounds_succ]
      go_wp2
      go_ret
      exact ⟨rfl, rfl⟩
    · have hb1 : (b != 0) = true := by simpa using hb
      refine wp_loop_rounds 2 ?_; rw [rounds_succ]
      go_wp2
      rw [rounds_succ]
      go_wp2
      go_ret
      exact ⟨rfl, rfl⟩
  · have hb1 : (a != 0) = true := by simpa using ha
    refine wp_loop_rounds 1 ?_; rw [rounds_succ]
    go_wp2
    go_ret
    exact ⟨by simp [ha], rfl⟩

def cmpGap (x y : S52) : Int := orI (cmpI x.f1 y.f1) (cmpI x.f0 y.f0)

def GrewInt (W : World) (v : Int) (e : Ending) (w' : World) : Prop := e = .returned (.int .i64 v) ∧ ∃ q os', w' = grow (W.drewN q) os'

set_option maxHeartbeats 1000000 in
theorem cmpGap_any (x y : S52) (W : World) : Calls Try.prog 65 #[.agg #[.int .i64 x.f0, .int .i64 x.f1, .int .i64 x.f2], .agg #[.int .i64 y.f0, .int .i64 y.f1, .int .i64 y.f2]] W (GrewInt W (cmpGap x y)) := by
  obtain ⟨p, f, t⟩ := x
  obtain ⟨p', f', t'⟩ := y
  simp only [cmpGap]
  go_enter Try.func65, Try.ntmps65
  go_wp2
  go_region_held3 (fun w' => w'.cell? ⟨W.heap.size, 0, none⟩ = some (.int .i64 p) ∧ w'.cell? ⟨W.heap.size, 1, none⟩ = some (.int .i64 f) ∧ w'.cell? ⟨W.heap.size + 1, 0, none⟩ = some (.int .i64 p') ∧ w'.cell? ⟨W.heap.size + 1, 1, none⟩ = some (.int .i64 f'))
    (first | go_keep | (refine ⟨?_, ?_, ?_, ?_⟩ <;> go_simp))
    (first | (go_at_call 46; refine (cmp64_any _ _ _).mono ?_; rintro e w' ⟨rfl, rfl⟩) | (go_at_call 47; refine (cmp_any _ _ _).mono ?_; rintro e w' ⟨rfl, rfl⟩) | (go_at_call 63; refine (or_two _ (cmpI f f') (cmpI p p') _ ?c1 ?c2).mono ?_; (case c1 => go_simp); (case c2 => go_simp); rintro e w1 ⟨rfl, rfl⟩))
  go_wp2
  go_ret
  exact ⟨rfl, 1, _, by rw [alloc_eq_grow, alloc_eq_grow, alloc_eq_grow, grow_grow, grow_grow]; rfl⟩

structure S90 where
  f0 : Int
  f1 : Bool
  f2 : Int
structure S98 where
  f0 : Int
  f1 : Int
instance : Inhabited S73 := ⟨⟨0, 0, 0⟩⟩
instance : Inhabited S52 := ⟨⟨0, 0, 0⟩⟩
instance : Inhabited S90 := ⟨⟨0, false, 0⟩⟩
instance : Inhabited S98 := ⟨⟨0, 0⟩⟩
def e73 (x : S73) : List Value := [.int .i64 x.f0, .int .i64 x.f1, .int .i64 x.f2]
def e52 (x : S52) : List Value := [.int .i64 x.f0, .int .i64 x.f1, .int .i64 x.f2]
def e90 (x : S90) : List Value := [.int .i64 x.f0, .bool x.f1, .int .i64 x.f2]
def e98 (x : S98) : List Value := [.int .i64 x.f0, .int .i64 x.f1]

/-- the order of steps: first by the tick, then those that begin, then by the page -/
def cmpStep (x y : S90) : Int := if cmpI x.f0 y.f0 ≠ 0 then cmpI x.f0 y.f0 else if x.f1 ≠ y.f1 then (if x.f1 = true then -1 else 1) else cmpI x.f2 y.f2

set_option maxHeartbeats 1000000 in
theorem cmpStep_any (x y : S90) (W : World) : Calls Try.prog 45 #[.agg #[.int .i64 x.f0, .bool x.f1, .int .i64 x.f2], .agg #[.int .i64 y.f0, .bool y.f1, .int .i64 y.f2]] W (GrewInt W (cmpStep x y)) := by
  obtain ⟨a, b, p⟩ := x
  obtain ⟨a', b', p'⟩ := y
  simp only [cmpStep]
  generalize hc : cmpI a a' = c
  have hC := fun w => cmp64_any a a' w
  rw [hc] at hC
  go_enter Try.func45, Try.ntmps45
  by_cases h0 : c = 0
  · subst h0
    cases b <;> cases b'
    all_goals
      go_wp2_with (first | (go_at_call 46; refine (hC _).mono ?_; rintro e w' ⟨rfl, rfl⟩) | (go_at_call 47; refine (cmp_any _ _ _).mono ?_; rintro e w' ⟨rfl, rfl⟩))
      go_ret
      exact ⟨by simp, 0, _, by rw [alloc_eq_grow, alloc_eq_grow, grow_grow]; rfl⟩
  · have hb1 : (c != 0) = true := by simpa using h0
    go_wp2_with (first | (go_at_call 46; refine (hC _).mono ?_; rintro e w' ⟨rfl, rfl⟩) | (go_at_call 47; refine (cmp_any _ _ _).mono ?_; rintro e w' ⟨rfl, rfl⟩))
    go_ret
    exact ⟨by simp [h0], 0, _, by rw [alloc_eq_grow, alloc_eq_grow, grow_grow]; rfl⟩

end Go.Proofs.Ytdkfmbammdmohaa.PPolicyCosts

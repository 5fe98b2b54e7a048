/- slices.ContainsFunc over the uses with what is wrong with a use; the sort of the gaps. -/
import Derived.Test.YtdkfmbammdmohaaB0
import Derived.Test.YtdkfmbammdmohaaL0
import Derived.Test.YtdkfmbammdmohaaS1
namespace Go.Proofs.Ytdkfmbammdmohaa.PPolicyCosts
open Go.RowKit Go.Proofs.YtdkfmbammdmohaaW.PrintWords Go.Proofs.YtdkfmbammdmohaaW.PrintLast Go.Proofs.YtdkfmbammdmohaaW.PrintMore
open Go.Proofs.YtdkfmbammdmohaaM Go.Proofs.YtdkfmbammdmohaaS
attribute [local go_sem] max2_int min2_int max_two min_two max_three min_three max_four min_four
set_option linter.unusedVariables false
set_option linter.unusedSimpArgs false

/-- A slice that is read: its address has no spot, its cells lie in a row. -/
theorem C73_row {w : World} {A : Option Addr} {l : List S73} (h : Kd.C k73 w A l.length l) (hn : 0 < l.length) :
    ∃ b off, A = some ⟨b, off, none⟩ ∧ b < w.heap.size ∧ ∀ j, j < l.length → ∀ i v, (e73 l[j]!)[i]? = some v → w.cell? ⟨b, off + j * 3 + i, none⟩ = some v := by
  obtain ⟨ad, rfl, c0, _, _⟩ := at_T73 h 0 (by omega) (by omega)
  obtain ⟨b, off, sp⟩ := ad
  have hsp : sp = none := by
    have h0 : w.cell? ⟨b, off, sp⟩ ≠ none := by
      have : w.cell? ⟨b, off, sp⟩ = some _ := c0
      rw [this]; simp
    unfold World.cell? at h0
    cases sp with
    | none => rfl
    | some s => exfalso; apply h0; split <;> simp
  subst hsp
  refine ⟨b, off, rfl, World.block_lt_of_cell? w ⟨b, off, none⟩ c0, fun j hj i v hv => ?_⟩
  obtain ⟨ad, e, d0, d1, d2⟩ := at_T73 h (j : Int) (by omega) (by omega)
  injection e with e
  subst e
  have hr : rd_T73 l (j : Int) = l[j]! := by
    unfold rd_T73
    rw [Int.toNat_natCast, List.getD_eq_getElem?_getD, List.getElem?_eq_getElem hj, getElem!_pos l j hj]
    rfl
  rw [hr, Int.toNat_natCast] at d0 d1 d2
  have ea : (⟨b, off, none⟩ : Addr).add (j * 3) = ⟨b, off + j * 3, none⟩ := by unfold Addr.add; split <;> simp_all
  rw [ea] at d0 d1 d2
  generalize l[j]! = x at *
  match i, hv with
  | 0, hv => simp only [e73, List.getElem?_cons_zero, List.getElem?_cons_succ, Option.some.injEq] at hv; subst hv; exact d0
  | 1, hv => simp only [e73, List.getElem?_cons_zero, List.getElem?_cons_succ, Option.some.injEq] at hv; subst hv; exact d1
  | 2, hv => simp only [e73, List.getElem?_cons_zero, List.getElem?_cons_succ, Option.some.injEq] at hv; subst hv; exact d2
  | i + 3, hv => simp [e73] at hv

theorem predWrong (w : World) : PredBelow Try.prog 61 #[] (fun x : S73 => .agg (e73 x).toArray) wrongU w := fun W x hb =>
  (wrong_any x W).mono fun e w' ⟨he, hb'⟩ => ⟨he, below_step hb hb'⟩

theorem idx_empty (A : Option Addr) (c : Nat) (fv : Value) (w : World) : Calls Try.prog 80 #[.slice A 0 c, fv] w fun e w' => e = .returned (.int .i64 (-1)) ∧ w' = w := by
  go_enter Try.func80, Try.ntmps80
  go_wp2
  refine wp_loop_rounds 1 ?_; rw [rounds_succ]
  go_wp2
  go_ret
  exact ⟨rfl, rfl⟩

theorem has_wrong (A : Option Addr) (c : Nat) (l : List S73) (w : World) (h : Kd.C k73 w A l.length l) :
    Calls Try.prog 62 #[.slice A l.length c, .func (.func 61) #[] #[]] w fun e w' => e = .returned (.bool (l.any wrongU)) ∧ Below w.heap.size w w' := by
  rcases Nat.eq_zero_or_pos l.length with h0 | h0
  · obtain rfl : l = [] := List.eq_nil_of_length_eq_zero h0
    go_enter Try.func62, Try.ntmps62
    go_wp2_with (go_at_call 80; refine (idx_empty _ _ _ _).mono ?_; rintro e w' ⟨rfl, rfl⟩)
    go_ret
    exact ⟨rfl, Below.refl _ _⟩
  · obtain ⟨b, off, rfl, hb, hc⟩ := C73_row h h0
    have hbig : l.length ≤ 9223372036854775807 := h.2.1
    have eg : ∀ args w, (callFunc 61 args).run Try.prog w = .ok (.enter 61 args) w := enters_of Try.func61 (by kernel_rfl) rfl
    have := AnyQ.slices_ContainsFunc Try.hasUse 3 Try.isAgg73 Try.sizeOf73 e73 (fun _ => rfl) wrongU 61 #[] eg b off l.length c l w (predWrong w) (Nat.le_refl _) hbig hb hc
    rw [List.take_length] at this
    exact this

theorem lt_cmpGap (x y : S52) : ltOf cmpGap x y = (decide (x.f1 < y.f1) || (decide (x.f1 = y.f1) && decide (x.f0 < y.f0))) := by
  unfold ltOf cmpGap orI cmpI
  by_cases h1 : x.f1 < y.f1
  · simp [h1]
  · by_cases h2 : y.f1 < x.f1
    · have : ¬ x.f1 = y.f1 := by omega
      simp [h1, h2, this]
    · have h3 : x.f1 = y.f1 := by omega
      by_cases h4 : x.f0 < y.f0
      · simp [h3, h4]
      · by_cases h5 : y.f0 < x.f0
        · simp [h3, h4, h5]
        · simp [h3, h4, h5]

theorem swoGap : Sort.SWO (ltOf cmpGap) where
  irrefl x := by rw [lt_cmpGap]; simp
  trans x y z h1 h2 := by rw [lt_cmpGap] at *; simp at *; omega
  ntrans x y z h1 h2 := by rw [lt_cmpGap] at *; simp at *; omega

theorem sortGap_own (base : Nat) (v : Value) (d : List S52) (w : World) (ho : w.ownsRow base 52 3 v d.length (d.flatMap e52)) (hsz : d.length < 4611686018427387904) :
    Calls Try.prog 64 #[v, .func (.func 65) #[] #[]] w fun en w' => en = .returned (.tuple #[]) ∧ ∃ d' : List S52, d'.Perm d ∧ d'.Pairwise (fun x y => decide (cmpGap y x < 0) = false) ∧ w'.ownsRow base 52 3 v d'.length (d'.flatMap e52) ∧ w.grownBy w' v.ownBlock := by
  have eg : ∀ args w, (callFunc 65 args).run Try.prog w = .ok (.enter 65 args) w := enters_of Try.func65 (by kernel_rfl) rfl
  exact sortFunc_own Try.sortGap 3 52 Try.isAgg52 Try.sizeOf52 e52 (fun _ => rfl) (fun x v hv => by simp [e52] at hv; rcases hv with rfl | rfl | rfl <;> rfl) cmpGap swoGap 65 eg (fun x y W => cmpGap_any x y W) base v d w ho hsz
end Go.Proofs.Ytdkfmbammdmohaa.PPolicyCosts

/- The example of the document, reckoned. -/
import Derived.Test.YtdkfmbammdmohaaG4
namespace Go.Proofs.Ytdkfmbammdmohaa.PPolicyCosts
open Go.RowKit Go.Proofs.YtdkfmbammdmohaaW.PrintWords Go.Proofs.YtdkfmbammdmohaaW.PrintLast Go.Proofs.YtdkfmbammdmohaaW.PrintMore
open Go.Proofs.YtdkfmbammdmohaaM Go.Proofs.YtdkfmbammdmohaaS
set_option linter.unusedVariables false
set_option linter.unusedSimpArgs false

theorem step_antisymm (x y : S90) (h1 : ltOf cmpStep y x = false) (h2 : ltOf cmpStep x y = false) : x = y := by
  rw [lt_cmpStep] at h1 h2
  obtain ⟨a, b, c⟩ := x
  obtain ⟨d, e, f⟩ := y
  cases b <;> cases e <;> simp at h1 h2 ⊢ <;> omega
theorem steps_unique {ss tt : List S90} (hp : ss.Perm tt) (h1 : ss.Pairwise (fun x y => ltOf cmpStep y x = false)) (h2 : tt.Pairwise (fun x y => ltOf cmpStep y x = false)) : ss = tt :=
  hp.eq_of_pairwise (fun a b _ _ => step_antisymm a b) h1 h2
theorem ages_sorted (l : List Int) : (l.mergeSort fun x y => decide (x ≤ y)).Pairwise (· ≤ ·) := by
  have := List.pairwise_mergeSort (le := fun x y : Int => decide (x ≤ y)) (fun a b c h1 h2 => by simp at *; omega) (fun a b => by simp; omega) l
  exact this.imp (fun h => by simpa using h)
theorem agesA_perm {gs ds : List S52} (h : gs.Perm ds) : agesA gs = agesA ds := by
  have hp : (agesA gs).Perm (agesA ds) := (List.mergeSort_perm _ _).trans (((h.map _).cons _).trans (List.mergeSort_perm _ _).symm)
  exact hp.eq_of_pairwise (fun a b _ _ h1 h2 => Int.le_antisymm h1 h2) (ages_sorted _) (ages_sorted _)

def exL : List S73 := [⟨1, 0, 2⟩, ⟨2, 1, 4⟩, ⟨1, 5, 6⟩, ⟨2, 20, 21⟩]
def exG : List S52 := [⟨1, 2, 5⟩, ⟨2, 4, 20⟩]
def exS : List S90 := [⟨0, true, 1⟩, ⟨1, true, 2⟩, ⟨2, false, 1⟩, ⟨4, false, 2⟩, ⟨5, true, 1⟩, ⟨6, false, 1⟩, ⟨20, true, 2⟩, ⟨21, false, 2⟩]
theorem exG_is : gapsOf exL = exG := rfl
theorem ex_both : bothE exL 2 10 = 0 := by kernel_rfl
theorem ex_chk : chk exL = 0 := by kernel_rfl
theorem ex_cost : costV 2 10 5 exL = 56 := by kernel_rfl
theorem ex_end : endOf exL = 21 := by kernel_rfl
theorem ex_gs {gs : List S52} (h : gs.Perm (gapsOf exL)) (hs : gs.Pairwise (fun x y => decide (cmpGap y x < 0) = false)) : gs = exG := by
  rw [exG_is] at h
  refine h.eq_of_pairwise (fun a b ha hb h1 h2 => ?_) hs (by simp [exG, cmpGap, orI, cmpI])
  have ha' := h.mem_iff.1 ha
  simp [exG] at ha' hb
  rcases ha' with rfl | rfl <;> rcases hb with rfl | rfl <;> first | rfl | (exfalso; simp [cmpGap, orI, cmpI] at h1; done) | (exfalso; simp [cmpGap, orI, cmpI] at h2; done)
theorem ex_least : leastR 2 10 (wrap64 ((exL.length : Int) * 10)) exG exG.length = (36, [0]) := by kernel_rfl
theorem ex_most0 : mostQ 2 10 1 (endOf exL) exS = 78 := by kernel_rfl
theorem ex_tune0 : tuneR (fun a => costV 2 10 a exL) [0, 3, 16] = (0, 40) := by kernel_rfl
theorem ex_most {ss : List S90} (h : ss.Perm (stepsOf exL)) (hs : ss.Pairwise (fun x y => ltOf cmpStep y x = false)) : mostQ 2 10 1 (endOf exL) ss = 78 := by
  have h2 : (stepsOf exL).Perm exS := List.Perm.cons _ (List.Perm.swap _ _ _)
  rw [steps_unique (h.trans h2) hs (by simp [exS, lt_cmpStep])]
  exact ex_most0
theorem ex_tune {gs : List S52} (h : gs.Perm (gapsOf exL)) : tuneR (fun a => costV 2 10 a exL) (agesA gs) = (0, 40) := by
  rw [exG_is] at h
  rw [agesA_perm h]
  have : agesA exG = [0, 3, 16] := by
    unfold agesA
    rw [show rawA exG = [0, 3, 16] from by kernel_rfl]
    exact List.mergeSort_of_pairwise (le := fun x y : Int => decide (x ≤ y)) (by decide)
  rw [this]
  exact ex_tune0
end Go.Proofs.Ytdkfmbammdmohaa.PPolicyCosts

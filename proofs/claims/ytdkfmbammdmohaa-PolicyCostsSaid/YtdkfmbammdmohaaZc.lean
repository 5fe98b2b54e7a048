/- The walk of PolicyCosts. -/
import Derived.Test.YtdkfmbammdmohaaZ8
import Derived.Test.YtdkfmbammdmohaaZb
import Derived.Deep.RegionWith
import Derived.Test.YtdkfmbammdmohaaRows
import Derived.Test.YtdkfmbammdmohaaPPolicyCostsx0
import Derived.WalkKit
import Derived.ProofKit
import Derived.OpenShut
import Derived.ShutString
import Derived.ChangeOld
import Derived.Below
import Derived.SizedLaws
import Derived.Carry
import Derived.Lib.SmallJoins
import Derived.Deep.Slices
import Derived.Deep.Fields
import Derived.ChangeSame
namespace Go.Proofs.Ytdkfmbammdmohaa.PPolicyCosts
open Go.RowKit Go.Proofs.YtdkfmbammdmohaaW.PrintWords Go.Proofs.YtdkfmbammdmohaaW.PrintLast Go.Proofs.YtdkfmbammdmohaaW.PrintMore
open Go.Proofs.YtdkfmbammdmohaaM Go.Proofs.YtdkfmbammdmohaaS
attribute [local go_sem] max2_int min2_int max_two min_two max_three min_three max_four min_four
set_option linter.unusedVariables false
set_option linter.unusedSimpArgs false

def costG (hold win : Int) : Int := if outB hold 1000 || outB win 1000000000 then 7 else 0
theorem ccostG_any (hold win : Int) (w : World) : Calls Try.prog 13 #[.agg #[.int .i64 hold, .int .i64 win]] w fun e w' => e = .returned (.int .i64 (costG hold win)) ∧ Below w.heap.size w w' := by
  refine polderref31_CheckCost.calls hold win _ w ?_
  unfold polderref31_CheckCost.f polderref31_from.f costG outB
  by_cases h1 : hold ≥ 0
  · by_cases h2 : hold ≤ 1000
    · by_cases h3 : win ≥ 0
      · by_cases h4 : win ≤ 1000000000
        · have e1 : ¬ hold < 0 := by omega
          have e2 : ¬ hold > 1000 := by omega
          have e3 : ¬ win < 0 := by omega
          have e4 : ¬ win > 1000000000 := by omega
          simp [h1, h2, h3, h4, e1, e2, e3, e4]
        · have e4 : win > 1000000000 := by omega
          simp [h1, h2, h3, h4, e4]
      · have e3 : win < 0 := by omega
        simp [h1, h2, h3, e3]
    · have e2 : hold > 1000 := by omega
      simp [h1, h2, e2]
  · have e1 : hold < 0 := by omega
    simp [h1, e1]
theorem polG_any (kind age most : Int) (w : World) : Calls Try.prog 27 #[.agg #[.int .i64 kind, .int .i64 age, .int .i64 most]] w fun e w' => e = .returned (.bool (polOK kind age most)) ∧ Below w.heap.size w w' := by
  refine polderref31_policy.calls 1 kind age most _ w ?_
  unfold polderref31_policy.f polderref31_policy.j0 polderref31_from.f polOK outB
  by_cases k1 : kind = 1
  · subst k1
    by_cases ha : age = 0 <;> simp [ha]
  · by_cases k2 : kind = 2
    · subst k2
      by_cases ha : age = 0 <;> simp [ha]
    · by_cases k3 : kind = 3
      · subst k3
        by_cases h1 : age ≥ 0
        · by_cases h2 : age ≤ 1000000000
          · have e1 : ¬ age < 0 := by omega
            have e2 : ¬ age > 1000000000 := by omega
            simp [h1, h2, e1, e2]
          · have e2 : age > 1000000000 := by omega
            simp [h1, h2, e2]
        · have e1 : age < 0 := by omega
          simp [h1, e1]
      · by_cases k4 : kind = 4
        · subst k4
          by_cases ha : age = 0
          · by_cases h1 : most ≥ 0
            · have e1 : ¬ most < 0 := by omega
              simp [ha, h1, e1]
              rw [Bool.eq_iff_iff]; simp
            · have e1 : most < 0 := by omega
              simp [ha, h1, e1]
          · simp [ha]
        · simp [k1, k2, k3, k4]

theorem asked_any (A : Option Addr) (c : Nat) (l : List S73) (hold win : Int) (w : World) (hC : Kd.C k73 w A l.length l) (hc : l.length ≤ c) :
    Calls Try.prog 26 #[.slice A l.length c, .agg #[.int .i64 hold, .int .i64 win]] w fun e w' => e = .returned (.int .i64 (bothE l hold win)) ∧ Below w.heap.size w w' := by
  have hbx : Below w.heap.size w (w.alloc (.cells #[.int .i64 hold, .int .i64 win] 24)) := below_alloc (Below.refl w.heap.size w) _
  have HBX := Aside0.mk hbx
  have HY := Aside0.mk (blk_new w (.cells #[.int .i64 hold, .int .i64 win] 24))
  have HCK := Aside0.mk (check_is A c l _ (Kd.C_below hC hbx) hc)
  have HCC := Aside0.mk (fun W => ccostG_any hold win W)
  have e : bothE l hold win = if chk l ≠ 0 then chk l else costG hold win := rfl
  rw [e]
  clear hC hbx e
  by_cases hck : chk l = 0
  · rw [hck] at HCK
    have e : (if chk l ≠ 0 then chk l else costG hold win) = costG hold win := if_neg (by simpa using hck)
    rw [e]
    clear hck e
    generalize costG hold win = ce at *
    go_enter Try.func26, Try.ntmps26
    go_wp2_with (first
      | (go_at_call 12; refine HCK.out.mono ?_; rintro e w1 ⟨rfl, hb1⟩; have HB1 := Aside0.mk (below_step HBX.out hb1); have HY1 := Aside0.mk (blk_below HY.out hb1); have y0 : w1.cell? ⟨w.heap.size, 0, none⟩ = some (.int .i64 hold) := (blk_cell HY1.out 0).trans rfl; have y1 : w1.cell? ⟨w.heap.size, 1, none⟩ = some (.int .i64 win) := (blk_cell HY1.out 1).trans rfl; have hYl : w.heap.size < w1.heap.size := blk_lt HY1.out; clear hb1)
      | (go_at_call 13; refine (HCC.out _).mono ?_; rintro e w2 ⟨rfl, hb2⟩))
    go_ret
    exact ⟨rfl, below_step HB1.out hb2⟩
  · have e : (if chk l ≠ 0 then chk l else costG hold win) = chk l := if_pos hck
    rw [e]
    clear e
    have hn : (chk l == 0) = false := by simpa using hck
    generalize chk l = ck at *
    go_enter Try.func26, Try.ntmps26
    go_wp2_with (go_at_call 12; refine HCK.out.mono ?_; rintro e w1 ⟨rfl, hb1⟩)
    go_ret
    exact ⟨rfl, below_step HBX.out hb1⟩

def CoBox (hold win kind age most : Int) (w W : World) : Prop :=
  Below w.heap.size w W ∧ W.heap[w.heap.size]? = some (.cells #[.int .i64 hold, .int .i64 win] 24 (0, 0)) ∧ W.heap[w.heap.size + 1]? = some (.cells #[.int .i64 kind, .int .i64 age, .int .i64 most] 26 (0, 0))
theorem CoBox.step {hold win kind age most : Int} {w W W' : World} (h : CoBox hold win kind age most w W) (hb : Below W.heap.size W W') : CoBox hold win kind age most w W' :=
  ⟨below_step h.1 hb, blk_below h.2.1 hb, blk_below h.2.2 hb⟩
theorem CoBox.cells {hold win kind age most : Int} {w W : World} (h : CoBox hold win kind age most w W) :
    W.cell? ⟨w.heap.size, 0, none⟩ = some (.int .i64 hold) ∧ W.cell? ⟨w.heap.size, 1, none⟩ = some (.int .i64 win) ∧ W.cell? ⟨w.heap.size + 1, 0, none⟩ = some (.int .i64 kind) ∧ W.cell? ⟨w.heap.size + 1, 1, none⟩ = some (.int .i64 age) ∧ W.cell? ⟨w.heap.size + 1, 2, none⟩ = some (.int .i64 most) ∧ w.heap.size + 1 < W.heap.size :=
  ⟨(blk_cell h.2.1 0).trans rfl, (blk_cell h.2.1 1).trans rfl, (blk_cell h.2.2 0).trans rfl, (blk_cell h.2.2 1).trans rfl, (blk_cell h.2.2 2).trans rfl, blk_lt h.2.2⟩
theorem CoBox.start (hold win kind age most : Int) (w : World) : CoBox hold win kind age most w ((w.alloc (.cells #[.int .i64 hold, .int .i64 win] 24)).alloc (.cells #[.int .i64 kind, .int .i64 age, .int .i64 most] 26)) :=
  ⟨below_alloc (below_alloc (Below.refl w.heap.size w) _) _, blk_alloc (blk_new w _) _, by have := blk_new (w.alloc (.cells #[.int .i64 hold, .int .i64 win] 24)) (.cells #[.int .i64 kind, .int .i64 age, .int .i64 most] 26); rw [World.size_alloc] at this; exact this⟩

/-- What the reference's Cost says. -/
theorem refCost_bad (A : Option Addr) (c : Nat) (l : List S73) (hold win kind age most : Int) (w : World) (hC : Kd.C k73 w A l.length l) (hc : l.length ≤ c) (h : bothE l hold win ≠ 0) :
    Calls Try.prog 10 #[.slice A l.length c, .agg #[.int .i64 hold, .int .i64 win], .agg #[.int .i64 kind, .int .i64 age, .int .i64 most]] w fun e w' => e = .returned (.tuple #[.int .i64 0, .int .i64 (bothE l hold win)]) ∧ Below w.heap.size w w' := by
  have HX := Aside0.mk (CoBox.start hold win kind age most w)
  have HAS := Aside0.mk (asked_any A c l hold win _ (Kd.C_below hC HX.out.1) hc)
  have hn : (bothE l hold win == 0) = false := by simpa using h
  clear hC
  generalize bothE l hold win = be at *
  go_enter Try.func10, Try.ntmps10
  go_wp2_with (go_at_call 26; refine HAS.out.mono ?_; rintro e w1 ⟨rfl, hb1⟩)
  go_ret2
  exact ⟨rfl, below_step HX.out.1 hb1⟩

theorem refCost_arg (A : Option Addr) (c : Nat) (l : List S73) (hold win kind age most : Int) (w : World) (hC : Kd.C k73 w A l.length l) (hc : l.length ≤ c) (h : bothE l hold win = 0) (hp : polOK kind age most = false) :
    Calls Try.prog 10 #[.slice A l.length c, .agg #[.int .i64 hold, .int .i64 win], .agg #[.int .i64 kind, .int .i64 age, .int .i64 most]] w fun e w' => e = .returned (.tuple #[.int .i64 0, .int .i64 2]) ∧ Below w.heap.size w w' := by
  have HX := Aside0.mk (CoBox.start hold win kind age most w)
  have has := asked_any A c l hold win _ (Kd.C_below hC HX.out.1) hc
  rw [h] at has
  have HAS := Aside0.mk has
  have hpo := fun W => polG_any kind age most W
  rw [hp] at hpo
  have HPO := Aside0.mk hpo
  clear hC has hpo h hp
  go_enter Try.func10, Try.ntmps10
  go_wp2_with (first
    | (go_at_call 26; refine HAS.out.mono ?_; rintro e w1 ⟨rfl, hb1⟩; have HX1 := Aside0.mk (HX.out.step hb1); obtain ⟨y0, y1, z0, z1, z2, hz⟩ := HX1.out.cells; clear hb1)
    | (go_at_call 27; refine (HPO.out _).mono ?_; rintro e w2 ⟨rfl, hb2⟩; have HX2 := Aside0.mk (HX1.out.step hb2); obtain ⟨y0, y1, z0, z1, z2, hz⟩ := HX2.out.cells; clear hb2))
  go_ret2
  exact ⟨rfl, HX2.out.1⟩
def AgedC (A : Option Addr) (c : Nat) (l : List S73) (hold win age v : Int) (W : World) : Prop :=
  Calls Try.prog 28 #[.slice A l.length c, .agg #[.int .i64 hold, .int .i64 win], .int .i64 age] W fun e w' => e = .returned (.int .i64 v) ∧ Below W.heap.size W w'
def MostC (A : Option Addr) (c : Nat) (l : List S73) (hold win most v : Int) (W : World) : Prop :=
  Calls Try.prog 29 #[.slice A l.length c, .agg #[.int .i64 hold, .int .i64 win], .int .i64 most] W fun e w' => e = .returned (.int .i64 v) ∧ Below W.heap.size W w'
set_option maxRecDepth 100000 in
set_option maxHeartbeats 4000000 in
theorem refCost_ok (A : Option Addr) (c : Nat) (l : List S73) (hold win kind age most v : Int) (w : World) (hC : Kd.C k73 w A l.length l) (hc : l.length ≤ c) (h : bothE l hold win = 0) (hp : polOK kind age most = true) (hv : CostV l hold win kind age most v) :
    Calls Try.prog 10 #[.slice A l.length c, .agg #[.int .i64 hold, .int .i64 win], .agg #[.int .i64 kind, .int .i64 age, .int .i64 most]] w fun e w' => e = .returned (.tuple #[.int .i64 v, .int .i64 0]) ∧ Below w.heap.size w w' := by
  have HX := Aside0.mk (CoBox.start hold win kind age most w)
  have has := asked_any A c l hold win _ (Kd.C_below hC HX.out.1) hc
  rw [h] at has
  have HAS := Aside0.mk has
  have hpo := fun W => polG_any kind age most W
  rw [hp] at hpo
  have HPO := Aside0.mk hpo
  have hag : ∀ a, 0 ≤ a → a ≤ 1000000000 → ∀ W, CoBox hold win kind age most w W → AgedC A c l hold win a (costV hold win a l) W := by
    intro a a0 a1 W hW
    obtain ⟨k, hk⟩ := aged_is h a0 a1
    exact polderref31_aged.calls k A c l hold win a _ W (Kd.C_below hC hW.1) hc hk
  rcases hv with ⟨rfl, rfl⟩ | ⟨rfl, rfl⟩ | ⟨rfl, rfl⟩ | ⟨rfl, ss, h1, h2, rfl⟩
  · have HAG := Aside0.mk (hag 1000000000 (by omega) (by omega))
    generalize costV hold win 1000000000 l = v at *
    clear hC has hpo h hp hag
    go_enter Try.func10, Try.ntmps10
    go_wp2_with (first
      | (go_at_call 26; refine HAS.out.mono ?_; rintro e w1 ⟨rfl, hb1⟩; have HX1 := Aside0.mk (HX.out.step hb1); obtain ⟨y0, y1, z0, z1, z2, hz⟩ := HX1.out.cells; clear hb1)
      | (go_at_call 27; refine (HPO.out _).mono ?_; rintro e w2 ⟨rfl, hb2⟩; have HX2 := Aside0.mk (HX1.out.step hb2); obtain ⟨y0, y1, z0, z1, z2, hz⟩ := HX2.out.cells; clear hb2)
      | (go_at_call 28; refine Calls.mono (HAG.out _ HX2.out) ?_; rintro e w3 ⟨rfl, hb3⟩))
    go_ret2
    exact ⟨rfl, below_step HX2.out.1 hb3⟩
  · have HAG := Aside0.mk (hag 0 (by omega) (by omega))
    generalize costV hold win 0 l = v at *
    clear hC has hpo h hp hag
    go_enter Try.func10, Try.ntmps10
    go_wp2_with (first
      | (go_at_call 26; refine HAS.out.mono ?_; rintro e w1 ⟨rfl, hb1⟩; have HX1 := Aside0.mk (HX.out.step hb1); obtain ⟨y0, y1, z0, z1, z2, hz⟩ := HX1.out.cells; clear hb1)
      | (go_at_call 27; refine (HPO.out _).mono ?_; rintro e w2 ⟨rfl, hb2⟩; have HX2 := Aside0.mk (HX1.out.step hb2); obtain ⟨y0, y1, z0, z1, z2, hz⟩ := HX2.out.cells; clear hb2)
      | (go_at_call 28; refine Calls.mono (HAG.out _ HX2.out) ?_; rintro e w3 ⟨rfl, hb3⟩))
    go_ret2
    exact ⟨rfl, below_step HX2.out.1 hb3⟩
  · have hbd : 0 ≤ age ∧ age ≤ 1000000000 := by
      simp [polOK, outB] at hp
      omega
    have HAG := Aside0.mk (hag age hbd.1 hbd.2)
    generalize costV hold win age l = v at *
    clear hC has hpo h hp hag hbd
    go_enter Try.func10, Try.ntmps10
    go_wp2_with (first
      | (go_at_call 26; refine HAS.out.mono ?_; rintro e w1 ⟨rfl, hb1⟩; have HX1 := Aside0.mk (HX.out.step hb1); obtain ⟨y0, y1, z0, z1, z2, hz⟩ := HX1.out.cells; clear hb1)
      | (go_at_call 27; refine (HPO.out _).mono ?_; rintro e w2 ⟨rfl, hb2⟩; have HX2 := Aside0.mk (HX1.out.step hb2); obtain ⟨y0, y1, z0, z1, z2, hz⟩ := HX2.out.cells; clear hb2)
      | (go_at_call 28; refine Calls.mono (HAG.out _ HX2.out) ?_; rintro e w3 ⟨rfl, hb3⟩))
    go_ret2
    exact ⟨rfl, below_step HX2.out.1 hb3⟩
  · have hbd : 0 ≤ most ∧ most ≤ 1024 := by
      simp [polOK, outB] at hp
      omega
    obtain ⟨k, hk⟩ := most_is h most hbd.1 hbd.2 h1 h2
    have HMC : Aside0 (∀ W, CoBox hold win 4 age most w W → MostC A c l hold win most (mostQ hold win most (endOf l) ss) W) :=
      ⟨fun W hW => polderref31_most.calls k A c l hold win most _ W (Kd.C_below hC hW.1) hc hk⟩
    generalize mostQ hold win most (endOf l) ss = v at *
    clear hC has hpo h hp hag hbd hk h1 h2
    go_enter Try.func10, Try.ntmps10
    go_wp2_with (first
      | (go_at_call 26; refine HAS.out.mono ?_; rintro e w1 ⟨rfl, hb1⟩; have HX1 := Aside0.mk (HX.out.step hb1); obtain ⟨y0, y1, z0, z1, z2, hz⟩ := HX1.out.cells; clear hb1)
      | (go_at_call 27; refine (HPO.out _).mono ?_; rintro e w2 ⟨rfl, hb2⟩; have HX2 := Aside0.mk (HX1.out.step hb2); obtain ⟨y0, y1, z0, z1, z2, hz⟩ := HX2.out.cells; clear hb2)
      | (go_at_call 29; refine Calls.mono (HMC.out _ HX2.out) ?_; rintro e w3 ⟨rfl, hb3⟩))
    go_ret2
    exact ⟨rfl, below_step HX2.out.1 hb3⟩
end Go.Proofs.Ytdkfmbammdmohaa.PPolicyCosts

namespace Go.Proofs.Ytdkfmbammdmohaa.PPolicyCosts
open Go.RowKit Go.Proofs.YtdkfmbammdmohaaW.PrintWords Go.Proofs.YtdkfmbammdmohaaW.PrintLast Go.Proofs.YtdkfmbammdmohaaW.PrintMore
open Go.Proofs.YtdkfmbammdmohaaM Go.Proofs.YtdkfmbammdmohaaS
attribute [local go_sem] max2_int min2_int max_two min_two max_three min_three max_four min_four
set_option linter.unusedVariables false
set_option linter.unusedSimpArgs false

def farB (l : List S73) : Bool := (decide ((l.length : Int) > 60) && decide ((l.length : Int) ≤ 200)) || decide ((l.length : Int) > 210)
theorem far60 (l : List S73) : polderlaw31_far.f l 60 = some (farB l) := by
  unfold polderlaw31_far.f farB
  by_cases h1 : (l.length : Int) > 60
  · by_cases h2 : (l.length : Int) ≤ 200
    · simp [h1, h2]
    · by_cases h3 : (l.length : Int) > 210 <;> simp [h1, h2, h3]
  · have h3 : ¬ (l.length : Int) > 210 := by omega
    simp [h1, h3]
theorem cost_bad (A : Option Addr) (c : Nat) (l : List S73) (hold win kind age most : Int) (w : World) (hC : Kd.C k73 w A l.length l) (hc : l.length ≤ c) (h : bothE l hold win ≠ 0) :
    Calls Try.prog 9 #[.slice A l.length c, .agg #[.int .i64 hold, .int .i64 win], .agg #[.int .i64 kind, .int .i64 age, .int .i64 most]] w fun e w' => e = .returned (.tuple #[.int .i64 0, .int .i64 (bothE l hold win)]) ∧ Below w.heap.size w w' :=
  (costF_any A c l hold win kind age most w hC hc).mono fun e w' h2 => by
    obtain ⟨hb, h3 | h3 | h3⟩ := h2
    · exact ⟨h3.2, hb⟩
    · exact absurd h3.1 h
    · exact absurd h3.1 h
theorem cost_arg (A : Option Addr) (c : Nat) (l : List S73) (hold win kind age most : Int) (w : World) (hC : Kd.C k73 w A l.length l) (hc : l.length ≤ c) (h : bothE l hold win = 0) (hp : polOK kind age most = false) :
    Calls Try.prog 9 #[.slice A l.length c, .agg #[.int .i64 hold, .int .i64 win], .agg #[.int .i64 kind, .int .i64 age, .int .i64 most]] w fun e w' => e = .returned (.tuple #[.int .i64 0, .int .i64 2]) ∧ Below w.heap.size w w' :=
  (costF_any A c l hold win kind age most w hC hc).mono fun e w' h2 => by
    obtain ⟨hb, h3 | h3 | h3⟩ := h2
    · exact absurd h h3.1
    · exact ⟨h3.2.2, hb⟩
    · rw [hp] at h3; exact absurd h3.2.1 (by decide)
theorem cost_okc (A : Option Addr) (c : Nat) (l : List S73) (hold win kind age most : Int) (w : World) (hC : Kd.C k73 w A l.length l) (hc : l.length ≤ c) (h : bothE l hold win = 0) (hp : polOK kind age most = true) :
    Calls Try.prog 9 #[.slice A l.length c, .agg #[.int .i64 hold, .int .i64 win], .agg #[.int .i64 kind, .int .i64 age, .int .i64 most]] w fun e w' => ∃ v, e = .returned (.tuple #[.int .i64 v, .int .i64 0]) ∧ Aside0 (CostV l hold win kind age most v) ∧ Below w.heap.size w w' :=
  (costF_any A c l hold win kind age most w hC hc).mono fun e w' h2 => by
    obtain ⟨hb, h3 | h3 | ⟨_, _, v, h3, h4⟩⟩ := h2
    · exact absurd h h3.1
    · rw [hp] at h3; exact absurd h3.2.1 (by decide)
    · exact ⟨v, h3, ⟨h4⟩, hb⟩

set_option maxRecDepth 100000 in
set_option maxHeartbeats 4000000 in
theorem costs_any (A : Option Addr) (c : Nat) (l : List S73) (hold win kind age most : Int) (w : World) (hC : Kd.C k73 w A l.length l) (hc : l.length ≤ c) :
    Calls Try.prog 3 #[.slice A l.length c, .agg #[.int .i64 hold, .int .i64 win], .agg #[.int .i64 kind, .int .i64 age, .int .i64 most]] w fun e w' => e = .returned (.bool true) ∧ Below w.heap.size w w' := by
  have HX := Aside0.mk (CoBox.start hold win kind age most w)
  have HFA := Aside0.mk (fun W (hW : CoBox hold win kind age most w W) => (polderlaw31_far.calls A c l 60 _ W (Kd.C_below hC hW.1) hc (far60 l)).mono fun e w' h => (⟨h.1, h.2.below⟩ : e = .returned (.bool (farB l)) ∧ Below W.heap.size W w'))
  cases hfar : farB l with
  | true =>
    rw [hfar] at HFA
    clear hfar hC
    go_enter Try.func3, Try.ntmps3
    go_wp2_with (first
      | (go_at_call 7; refine (HFA.out _ HX.out).mono ?_; rintro e w1 ⟨rfl, hb1⟩; have HX1 := Aside0.mk (HX.out.step hb1); clear hb1)
      | (go_at_call 8; refine (awake_any _).mono ?_; rintro e w2 ⟨rfl, hb2⟩))
    go_ret
    exact ⟨rfl, below_step HX1.out.1 hb2⟩
  | false =>
    rw [hfar] at HFA
    clear hfar
    by_cases hbe : bothE l hold win = 0
    · cases hpo : polOK kind age most with
      | false =>
        have H9 := Aside0.mk (fun W (hW : CoBox hold win kind age most w W) => cost_arg A c l hold win kind age most W (Kd.C_below hC hW.1) hc hbe hpo)
        have H10 := Aside0.mk (fun W (hW : CoBox hold win kind age most w W) => refCost_arg A c l hold win kind age most W (Kd.C_below hC hW.1) hc hbe hpo)
        clear hC hbe hpo
        go_enter Try.func3, Try.ntmps3
        go_wp2_with (first
          | (go_at_call 7; refine (HFA.out _ HX.out).mono ?_; rintro e w1 ⟨rfl, hb1⟩; have HX1 := Aside0.mk (HX.out.step hb1); obtain ⟨y0, y1, z0, z1, z2, hz⟩ := HX1.out.cells; clear hb1)
          | (go_at_call 9; refine (H9.out _ HX1.out).mono ?_; rintro e w3 ⟨rfl, hb3⟩; have HX3 := Aside0.mk (HX1.out.step hb3); obtain ⟨y0, y1, z0, z1, z2, hz⟩ := HX3.out.cells; clear hb3)
          | (go_at_call 10; refine (H10.out _ HX3.out).mono ?_; rintro e w4 ⟨rfl, hb4⟩; have HX4 := Aside0.mk (HX3.out.step hb4); clear hb4)
          | (go_at_call 8; refine (awake_any _).mono ?_; rintro e w2 ⟨rfl, hb2⟩))
        go_ret
        exact ⟨rfl, below_step HX4.out.1 hb2⟩
      | true =>
        have H9 := Aside0.mk (fun W (hW : CoBox hold win kind age most w W) => cost_okc A c l hold win kind age most W (Kd.C_below hC hW.1) hc hbe hpo)
        have H10 := Aside0.mk (fun v (hv : CostV l hold win kind age most v) W (hW : CoBox hold win kind age most w W) => refCost_ok A c l hold win kind age most v W (Kd.C_below hC hW.1) hc hbe hpo hv)
        clear hC hbe hpo
        go_enter Try.func3, Try.ntmps3
        go_wp2_with (first
          | (go_at_call 7; refine (HFA.out _ HX.out).mono ?_; rintro e w1 ⟨rfl, hb1⟩; have HX1 := Aside0.mk (HX.out.step hb1); obtain ⟨y0, y1, z0, z1, z2, hz⟩ := HX1.out.cells; clear hb1)
          | (go_at_call 9; refine (H9.out _ HX1.out).mono ?_; rintro e w3 ⟨v, rfl, HV, hb3⟩; have HX3 := Aside0.mk (HX1.out.step hb3); obtain ⟨y0, y1, z0, z1, z2, hz⟩ := HX3.out.cells; clear hb3)
          | (go_at_call 10; refine (H10.out v HV.out _ HX3.out).mono ?_; rintro e w4 ⟨rfl, hb4⟩; have HX4 := Aside0.mk (HX3.out.step hb4); clear hb4)
          | (go_at_call 8; refine (awake_any _).mono ?_; rintro e w2 ⟨rfl, hb2⟩))
        go_ret
        exact ⟨rfl, below_step HX4.out.1 hb2⟩
    · have H9 := Aside0.mk (fun W (hW : CoBox hold win kind age most w W) => cost_bad A c l hold win kind age most W (Kd.C_below hC hW.1) hc hbe)
      have H10 := Aside0.mk (fun W (hW : CoBox hold win kind age most w W) => refCost_bad A c l hold win kind age most W (Kd.C_below hC hW.1) hc hbe)
      clear hC hbe
      generalize bothE l hold win = be at *
      go_enter Try.func3, Try.ntmps3
      go_wp2_with (first
        | (go_at_call 7; refine (HFA.out _ HX.out).mono ?_; rintro e w1 ⟨rfl, hb1⟩; have HX1 := Aside0.mk (HX.out.step hb1); obtain ⟨y0, y1, z0, z1, z2, hz⟩ := HX1.out.cells; clear hb1)
        | (go_at_call 9; refine (H9.out _ HX1.out).mono ?_; rintro e w3 ⟨rfl, hb3⟩; have HX3 := Aside0.mk (HX1.out.step hb3); obtain ⟨y0, y1, z0, z1, z2, hz⟩ := HX3.out.cells; clear hb3)
        | (go_at_call 10; refine (H10.out _ HX3.out).mono ?_; rintro e w4 ⟨rfl, hb4⟩; have HX4 := Aside0.mk (HX3.out.step hb4); clear hb4)
        | (go_at_call 8; refine (awake_any _).mono ?_; rintro e w2 ⟨rfl, hb2⟩))
      go_ret
      exact ⟨rfl, below_step HX4.out.1 hb2⟩
end Go.Proofs.Ytdkfmbammdmohaa.PPolicyCosts

namespace Go.Proofs.Ytdkfmbammdmohaa.PPolicyCosts
open Go.RowKit Go.ChangeShapes Go.WideShapes Go.Deep Go.Joins Go.ChangeAt Go.Proofs.YtdkfmbammdmohaaW.PrintWords
set_option linter.unusedVariables false
section
variable {H : Type} {enc : TypeId × Value → H} {P : Program} {w : World} {base : Nat} {spare : Nat → Bool} {held : Bool}
theorem open_slice_fields {t e : TypeId} {fs : Array Field} {fuel : Nat} {cs : List Value} {x : DataW H × List MemPlace} (ht : P.underlying t = some (.slice e)) (he : P.underlying e = some (.struct fs))
    (hone : oneCellFields P fs = true) (hC : P.cellsOf e = fs.size) (h : DataW.trod enc P w base spare held fuel t cs = some x) :
    (cs = [.slice none 0 0] ∧ x = (.nil, [])) ∨
    ∃ (a : Addr) (len cap m : Nat), cs = [.slice (some a) len cap] ∧ len ≤ cap ∧ cap ≤ maxLen ∧ len ≤ m ∧
      ∀ i, i < m → ∀ (j : Nat) (f : Field), fs[j]? = some f → ∃ (v : Value) (y : DataW H × List MemPlace) (n : Nat), w.cell? (a.add (i * fs.size + j)) = some v ∧ DataW.trod enc P w base spare held n f.type [v] = some y := by
  rcases open_slice ht h with h0 | ⟨a, len, cap, m, n, D, Pl, hcs, hb, hl, hm, hmm, hx, hi⟩
  · exact .inl h0
  · refine .inr ⟨a, len, cap, m, hcs, hl, hm, by rw [hmm]; split <;> omega, fun i him => ?_⟩
    obtain ⟨cs', hc, ht'⟩ := hi i him
    rw [hC] at hc
    obtain ⟨ys, n', hn', hy, hlen, hyl, hf⟩ := DataW.trod_struct he ht'
    obtain ⟨_, hcl, hat⟩ := World.cells?_some hc
    intro j f hj
    obtain ⟨ho, hk⟩ := hone_of hone j f hj
    have hjl : j < fs.size := (Array.getElem?_eq_some_iff.1 hj).1
    have hcell := hat j hjl
    have hv : cs'[j]? = some (cs'[j]'(by omega)) := List.getElem?_eq_getElem (by omega)
    have h1 := hf j f hj
    rw [ho, hk] at h1
    have hone' : (cs'.drop j).take 1 = [cs'[j]'(by omega)] := by
      rw [List.drop_eq_getElem_cons (by omega)]
      rfl
    rw [hone'] at h1
    have hys : ys[j]? = some (ys[j]'(by omega)) := List.getElem?_eq_getElem (by omega)
    refine ⟨_, _, _, ?_, h1.trans hys⟩
    rw [← Go.Deep.add_add, hcell, hv]
end
theorem exists_list {α : Type} [Inhabited α] {n : Nat} {Q : Nat → α → Prop} (h : ∀ i, i < n → ∃ x, Q i x) : ∃ l : List α, l.length = n ∧ ∀ i x, l[i]? = some x → Q i x := by
  induction n with
  | zero => exact ⟨[], rfl, fun i x hx => by simp at hx⟩
  | succ n ih =>
    obtain ⟨l, hl, hq⟩ := ih (fun i hi => h i (by omega))
    obtain ⟨x, hx⟩ := h n (by omega)
    refine ⟨l ++ [x], by simp [hl], fun i y hy => ?_⟩
    by_cases hi : i < n
    · rw [List.getElem?_append_left (by omega)] at hy
      exact hq i y hy
    · rw [List.getElem?_append_right (by omega)] at hy
      obtain rfl : i = n := by
        by_cases h2 : i = n
        · exact h2
        · rw [hl, List.getElem?_eq_none (by simp; omega)] at hy
          cases hy
      simp [hl] at hy
      exact hy ▸ hx
theorem open_uses {H : Type} {enc : TypeId × Value → H} {W : World} {spare : Nat → Bool} {held : Bool} {A : Option Addr} {len c : Nat} {d : DataW H} {ps : List MemPlace} {base : Nat}
    (h : DataW.Trod enc Try.prog W base spare held 22 (.slice A len c) d ps) : ∃ l : List S73, l.length = len ∧ len ≤ c ∧ Kd.C k73 W A len l := by
  obtain ⟨fuel, hf⟩ := h
  have hf' : DataW.trod enc Try.prog W base spare held fuel 22 [.slice A len c] = some (d, ps) := by simpa [Value.cells] using hf
  rcases open_slice_fields Try.underlying22 Try.underlying73 (by kernel_rfl) (by kernel_rfl) hf' with ⟨hcs, _⟩ | ⟨a, len', cap, m, hcs, hl, hm, hmm, hi⟩
  · simp at hcs
    obtain ⟨rfl, rfl, rfl⟩ := hcs
    exact ⟨[], rfl, Nat.le_refl _, rfl, by omega, fun h => by omega⟩
  · simp at hcs
    obtain ⟨rfl, rfl, rfl⟩ := hcs
    have hq : ∀ i, i < len → ∃ x : S73, W.cell? (a.add (i * 3 + 0)) = some (.int .i64 x.f0) ∧ W.cell? (a.add (i * 3 + 1)) = some (.int .i64 x.f1) ∧ W.cell? (a.add (i * 3 + 2)) = some (.int .i64 x.f2) := by
      intro i hil
      have hi' := hi i (by omega)
      obtain ⟨v0, y0, n0, c0, t0⟩ := hi' 0 _ rfl
      obtain ⟨v1, y1, n1, c1, t1⟩ := hi' 1 _ rfl
      obtain ⟨v2, y2, n2, c2, t2⟩ := hi' 2 _ rfl
      obtain ⟨x0, e0, _, _⟩ := DataW.trod_int Try.underlying3 t0
      obtain ⟨x1, e1, _, _⟩ := DataW.trod_int Try.underlying2 t1
      obtain ⟨x2, e2, _, _⟩ := DataW.trod_int Try.underlying2 t2
      simp at e0 e1 e2
      subst e0 e1 e2
      exact ⟨⟨x0, x1, x2⟩, c0, c1, c2⟩
    haveI : Inhabited S73 := ⟨⟨0, 0, 0⟩⟩
    obtain ⟨l, hll, hx⟩ := exists_list hq
    refine ⟨l, hll, hl, hll, by unfold maxLen at hm; omega, fun hn => ⟨a, rfl, fun j p hp => ⟨_, rfl, k73_mk _ p, fun i u hu => ?_⟩⟩⟩
    obtain ⟨c0, c1, c2⟩ := hx j p hp
    match i, hu with
    | 0, hu => simp at hu; subst hu; exact c0
    | 1, hu => simp at hu; subst hu; exact c1
    | 2, hu => simp at hu; subst hu; exact c2
    | i + 3, hu => simp at hu
theorem own : ownKnob Try.prog.godebug = none := by kernel_rfl
theorem laidOut : laidOutB Try.prog = true := by kernel_rfl
end Go.Proofs.Ytdkfmbammdmohaa.PPolicyCosts

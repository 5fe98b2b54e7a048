/- awake: true. -/
import Derived.Test.YtdkfmbammdmohaaZ7
namespace Go.Proofs.Ytdkfmbammdmohaa.PPolicyCosts
open Go.RowKit Go.Proofs.YtdkfmbammdmohaaW.PrintWords Go.Proofs.YtdkfmbammdmohaaW.PrintLast Go.Proofs.YtdkfmbammdmohaaW.PrintMore
open Go.Proofs.YtdkfmbammdmohaaM Go.Proofs.YtdkfmbammdmohaaS
attribute [local go_sem] max2_int min2_int max_two min_two max_three min_three max_four min_four
set_option linter.unusedVariables false
set_option linter.unusedSimpArgs false

theorem exCall (w : World) : Calls Try.prog 18 #[] w fun e w' => ∃ A c, e = .returned (.slice A 4 c) ∧ 4 ≤ c ∧ Kd.C k73 w' A 4 exL ∧ Below w.heap.size w w' :=
  (polderlaw31_Example.calls exL w rfl).mono fun e w' h => by
    obtain ⟨v, rfl, hR, hb⟩ := h
    obtain ⟨A, c, rfl, hc, hC⟩ := Kd.R_reads hR
    exact ⟨A, c, rfl, hc, hC, hb⟩
theorem exGaps (A : Option Addr) (c : Nat) (w : World) (hC : Kd.C k73 w A 4 exL) (hc : 4 ≤ c) :
    Calls Try.prog 17 #[.slice A 4 c] w fun e w' => ∃ Ag cg, e = .returned (.tuple #[.slice Ag 2 cg, .int .i64 0]) ∧ 2 ≤ cg ∧ Kd.C k52 w' Ag 2 exG ∧ Below w.heap.size w w' :=
  (gapsF_any A c exL w hC hc).mono fun e w' h => by
    obtain ⟨hb, h | ⟨_, Ag, cg, gs, rfl, h1, h2, h3, h4⟩⟩ := h
    · exact absurd ex_chk h.1
    · obtain rfl := ex_gs h2 h3
      exact ⟨Ag, cg, rfl, h1, h4, hb⟩
theorem exAge (A : Option Addr) (c : Nat) (w : World) (hC : Kd.C k73 w A 4 exL) (hc : 4 ≤ c) :
    Calls Try.prog 9 #[.slice A 4 c, .agg #[.int .i64 2, .int .i64 10], .agg #[.int .i64 3, .int .i64 5, .int .i64 0]] w fun e w' => e = .returned (.tuple #[.int .i64 56, .int .i64 0]) ∧ Below w.heap.size w w' :=
  (costF_any A c exL 2 10 3 5 0 w hC hc).mono fun e w' h => by
    obtain ⟨hb, h | h | ⟨_, _, v, rfl, h⟩⟩ := h
    · exact absurd ex_both h.1
    · exact absurd h.2.1 (by decide)
    · refine ⟨?_, hb⟩
      rcases h with h | h | h | h
      · exact absurd h.1 (by decide)
      · exact absurd h.1 (by decide)
      · rw [h.2, ex_cost]
      · exact absurd h.1 (by decide)
theorem exMost (A : Option Addr) (c : Nat) (w : World) (hC : Kd.C k73 w A 4 exL) (hc : 4 ≤ c) :
    Calls Try.prog 9 #[.slice A 4 c, .agg #[.int .i64 2, .int .i64 10], .agg #[.int .i64 4, .int .i64 0, .int .i64 1]] w fun e w' => e = .returned (.tuple #[.int .i64 78, .int .i64 0]) ∧ Below w.heap.size w w' :=
  (costF_any A c exL 2 10 4 0 1 w hC hc).mono fun e w' h => by
    obtain ⟨hb, h | h | ⟨_, _, v, rfl, h⟩⟩ := h
    · exact absurd ex_both h.1
    · exact absurd h.2.1 (by decide)
    · refine ⟨?_, hb⟩
      rcases h with h | h | h | ⟨_, ss, h1, h2, h3⟩
      · exact absurd h.1 (by decide)
      · exact absurd h.1 (by decide)
      · exact absurd h.1 (by decide)
      · rw [h3, ex_most h1 h2]
theorem exLeast (A : Option Addr) (c : Nat) (w : World) (hC : Kd.C k73 w A 4 exL) (hc : 4 ≤ c) :
    Calls Try.prog 11 #[.slice A 4 c, .agg #[.int .i64 2, .int .i64 10]] w fun e w' => ∃ Ak ck, e = .returned (.tuple #[.slice Ak 1 ck, .int .i64 36, .int .i64 0]) ∧ 1 ≤ ck ∧ Kd.C (Kd.int .i64) w' Ak 1 [0] ∧ Below w.heap.size w w' :=
  (leastF_any A c exL 2 10 w hC hc).mono fun e w' h => by
    obtain ⟨hb, h | ⟨_, Ak, ck, gs, h1, h2, rfl, h4, h5⟩⟩ := h
    · exact absurd ex_both h.1
    · obtain rfl := ex_gs h1 h2
      rw [ex_least] at h4 h5 ⊢
      exact ⟨Ak, ck, rfl, h4, h5, hb⟩
theorem exTune (A : Option Addr) (c : Nat) (w : World) (hC : Kd.C k73 w A 4 exL) (hc : 4 ≤ c) :
    Calls Try.prog 14 #[.slice A 4 c, .agg #[.int .i64 2, .int .i64 10]] w fun e w' => e = .returned (.tuple #[.int .i64 0, .int .i64 40, .int .i64 0]) ∧ Below w.heap.size w w' :=
  (tuneF_any A c exL 2 10 w hC hc).mono fun e w' h => by
    obtain ⟨hb, h | ⟨_, gs, h1, rfl⟩⟩ := h
    · exact absurd ex_both h.1
    · rw [ex_tune h1]
      exact ⟨rfl, hb⟩

theorem litG (w : World) : Kd.C k52 (w.alloc (.cells #[.int .i64 1, .int .i64 2, .int .i64 5, .int .i64 2, .int .i64 4, .int .i64 20] 52)) (some ⟨w.heap.size, 0, none⟩) 2 exG := by
  obtain ⟨A, c, he, hc, hC⟩ := own_C52 (w := w.alloc (.cells #[.int .i64 1, .int .i64 2, .int .i64 5, .int .i64 2, .int .i64 4, .int .i64 20] 52)) (base := w.heap.size) (gv := .slice (some ⟨w.heap.size, 0, none⟩) 2 2) (gs := exG) ⟨rfl, .inr ⟨w.heap.size, 2, _, rfl, Nat.le_refl _, blk_new w _, Nat.le_refl _, by unfold maxLen; omega, rfl, rfl⟩⟩
  injection he with h1 h2 h3
  subst h1
  exact hC
theorem litI (w : World) : Kd.C (Kd.int .i64) (w.alloc (.cells #[.int .i64 0] 3)) (some ⟨w.heap.size, 0, none⟩) 1 [0] := by
  obtain ⟨A, c, he, hc, hC⟩ := own_CI (w := w.alloc (.cells #[.int .i64 0] 3)) (base := w.heap.size) (ty := 3) (v := .slice (some ⟨w.heap.size, 0, none⟩) 1 1) (ks := [0]) ⟨rfl, .inr ⟨w.heap.size, 1, _, rfl, Nat.le_refl _, blk_new w _, Nat.le_refl _, by unfold maxLen; omega, rfl, rfl⟩⟩
  injection he with h1 h2 h3
  subst h1
  exact hC
def AwW (w W : World) : Prop := Below w.heap.size w W ∧ W.heap[w.heap.size]? = some (.cells #[.int .i64 2, .int .i64 10] 24 (0, 0))
theorem AwW.step {w W W' : World} (h : AwW w W) (hb : Below W.heap.size W W') : AwW w W' := ⟨below_step h.1 hb, blk_below h.2 hb⟩

set_option maxRecDepth 100000 in
set_option maxHeartbeats 8000000 in
theorem awake_any (w : World) : Calls Try.prog 8 #[] w fun e w' => e = .returned (.bool true) ∧ Below w.heap.size w w' := by
  go_enter Try.func8, Try.ntmps8
  go_wp2_with (first
    | (go_at_call 18; refine (exCall _).mono ?_; rintro e w1 ⟨A1, c1, rfl, hc1, hC1, hb1⟩; have HW := Aside0.mk (show AwW w w1 from ⟨below_step (below_alloc (Below.refl _ _) _) hb1, blk_below (blk_new w _) hb1⟩); have HC1 := Aside0.mk hC1; clear hC1 hb1)
    | (go_at_call 17; refine (exGaps A1 c1 _ HC1.out hc1).mono ?_; rintro e w2 ⟨Ag, cg, rfl, hcg, hCg, hb2⟩; have HW := Aside0.mk (HW.out.step hb2); have HCG := Aside0.mk hCg; clear hCg hb2))
  have y0 : w2.cell? ⟨w.heap.size, 0, none⟩ = some (.int .i64 2) := (blk_cell HW.out.2 0).trans rfl
  have y1 : w2.cell? ⟨w.heap.size, 1, none⟩ = some (.int .i64 10) := (blk_cell HW.out.2 1).trans rfl
  have hWl : w.heap.size < w2.heap.size := blk_lt HW.out.2
  go_cut [4, 5] (fun s4 s5 wc => s4 = .int .i64 56 ∧ s5 = .int .i64 0 ∧ Aside0 (AwW w wc) ∧ Aside0 (Kd.C k52 wc Ag 2 exG))
  case first =>
    go_region_with (first
      | (go_at_call 18; refine (exCall _).mono ?_; rintro e w3 ⟨A3, c3, rfl, hc3, hC3, hb3⟩; have HW3 := Aside0.mk ((HW.out.step (by repeat (first | exact Below.refl _ _ | apply below_drew | apply pw_below_drewN))).step hb3); have HB3 := Aside0.mk (below_step (by repeat (first | exact Below.refl _ _ | apply below_drew | apply pw_below_drewN) : Below w2.heap.size w2 _) hb3); have y0 : w3.cell? ⟨w.heap.size, 0, none⟩ = some (.int .i64 2) := (blk_cell HW3.out.2 0).trans rfl; have y1 : w3.cell? ⟨w.heap.size, 1, none⟩ = some (.int .i64 10) := (blk_cell HW3.out.2 1).trans rfl; have HC3 := Aside0.mk hC3; clear hC3 hb3)
      | (go_at_call 9; refine (exAge A3 c3 _ (Kd.C_below HC3.out (by repeat (first | exact Below.refl _ _ | apply below_drew | apply pw_below_drewN))) hc3).mono ?_; rintro e w4 ⟨rfl, hb4⟩; have HW4 := Aside0.mk ((HW3.out.step (by repeat (first | exact Below.refl _ _ | apply below_drew | apply pw_below_drewN))).step hb4); have HB4 := Aside0.mk (below_step HB3.out (below_step (by repeat (first | exact Below.refl _ _ | apply below_drew | apply pw_below_drewN) : Below w3.heap.size w3 _) hb4))))
    all_goals
      go_wp2_with fail
      go_meet
      exact ⟨rfl, rfl, HW4, ⟨Kd.C_below HCG.out HB4.out⟩⟩
  case rest =>
  obtain ⟨rfl, rfl, HW, HCG⟩ := hcut
  obtain ⟨wa, hwa⟩ : ∃ wa, wa = wc := ⟨_, rfl⟩
  subst hwa
  clear y0 y1 hWl
  go_wp2
  have y0 : wa.cell? ⟨w.heap.size, 0, none⟩ = some (.int .i64 2) := (blk_cell HW.out.2 0).trans rfl
  have y1 : wa.cell? ⟨w.heap.size, 1, none⟩ = some (.int .i64 10) := (blk_cell HW.out.2 1).trans rfl
  have hWl : w.heap.size < wa.heap.size := blk_lt HW.out.2
  go_cut [6, 7] (fun s6 s7 wc => s6 = .int .i64 78 ∧ s7 = .int .i64 0 ∧ Aside0 (AwW w wc) ∧ Aside0 (Kd.C k52 wc Ag 2 exG))
  case first =>
    go_region_with (first
      | (go_at_call 18; refine (exCall _).mono ?_; rintro e w3 ⟨A3, c3, rfl, hc3, hC3, hb3⟩; have HW3 := Aside0.mk ((HW.out.step (by repeat (first | exact Below.refl _ _ | apply below_drew | apply pw_below_drewN))).step hb3); have HB3 := Aside0.mk (below_step (by repeat (first | exact Below.refl _ _ | apply below_drew | apply pw_below_drewN) : Below wa.heap.size wa _) hb3); have y0 : w3.cell? ⟨w.heap.size, 0, none⟩ = some (.int .i64 2) := (blk_cell HW3.out.2 0).trans rfl; have y1 : w3.cell? ⟨w.heap.size, 1, none⟩ = some (.int .i64 10) := (blk_cell HW3.out.2 1).trans rfl; have HC3 := Aside0.mk hC3; clear hC3 hb3)
      | (go_at_call 9; refine (exMost A3 c3 _ (Kd.C_below HC3.out (by repeat (first | exact Below.refl _ _ | apply below_drew | apply pw_below_drewN))) hc3).mono ?_; rintro e w4 ⟨rfl, hb4⟩; have HW4 := Aside0.mk ((HW3.out.step (by repeat (first | exact Below.refl _ _ | apply below_drew | apply pw_below_drewN))).step hb4); have HB4 := Aside0.mk (below_step HB3.out (below_step (by repeat (first | exact Below.refl _ _ | apply below_drew | apply pw_below_drewN) : Below w3.heap.size w3 _) hb4))))
    all_goals
      go_wp2_with fail
      go_meet
      exact ⟨rfl, rfl, HW4, ⟨Kd.C_below HCG.out HB4.out⟩⟩
  case rest =>
  obtain ⟨rfl, rfl, HW, HCG⟩ := hcut
  obtain ⟨wb, hwb⟩ : ∃ wb, wb = wc := ⟨_, rfl⟩
  subst hwb
  clear y0 y1 hWl
  go_wp2
  have y0 : wb.cell? ⟨w.heap.size, 0, none⟩ = some (.int .i64 2) := (blk_cell HW.out.2 0).trans rfl
  have y1 : wb.cell? ⟨w.heap.size, 1, none⟩ = some (.int .i64 10) := (blk_cell HW.out.2 1).trans rfl
  have hWl : w.heap.size < wb.heap.size := blk_lt HW.out.2
  go_cut [8, 9, 10] (fun s8 s9 s10 wc => ∃ Ak ck, s8 = .slice Ak 1 ck ∧ 1 ≤ ck ∧ s9 = .int .i64 36 ∧ s10 = .int .i64 0 ∧ Aside0 (AwW w wc) ∧ Aside0 (Kd.C k52 wc Ag 2 exG) ∧ Aside0 (Kd.C (Kd.int .i64) wc Ak 1 [0]))
  case first =>
    go_region_with (first
      | (go_at_call 18; refine (exCall _).mono ?_; rintro e w3 ⟨A3, c3, rfl, hc3, hC3, hb3⟩; have HW3 := Aside0.mk ((HW.out.step (by repeat (first | exact Below.refl _ _ | apply below_drew | apply pw_below_drewN))).step hb3); have HB3 := Aside0.mk (below_step (by repeat (first | exact Below.refl _ _ | apply below_drew | apply pw_below_drewN) : Below wb.heap.size wb _) hb3); have y0 : w3.cell? ⟨w.heap.size, 0, none⟩ = some (.int .i64 2) := (blk_cell HW3.out.2 0).trans rfl; have y1 : w3.cell? ⟨w.heap.size, 1, none⟩ = some (.int .i64 10) := (blk_cell HW3.out.2 1).trans rfl; have HC3 := Aside0.mk hC3; clear hC3 hb3)
      | (go_at_call 11; refine (exLeast A3 c3 _ (Kd.C_below HC3.out (by repeat (first | exact Below.refl _ _ | apply below_drew | apply pw_below_drewN))) hc3).mono ?_; rintro e w4 ⟨Ak, ck, rfl, hck, hCk, hb4⟩; have HW4 := Aside0.mk ((HW3.out.step (by repeat (first | exact Below.refl _ _ | apply below_drew | apply pw_below_drewN))).step hb4); have HB4 := Aside0.mk (below_step HB3.out (below_step (by repeat (first | exact Below.refl _ _ | apply below_drew | apply pw_below_drewN) : Below w3.heap.size w3 _) hb4)); have HCK := Aside0.mk hCk; clear hCk))
    all_goals
      go_wp2_with fail
      go_meet
      exact ⟨Ak, ck, rfl, hck, rfl, rfl, HW4, ⟨Kd.C_below HCG.out HB4.out⟩, HCK⟩
  case rest =>
  obtain ⟨Ak, ck, rfl, hck, rfl, rfl, HW, HCG, HCK⟩ := hcut
  obtain ⟨wd, hwd⟩ : ∃ wd, wd = wc := ⟨_, rfl⟩
  subst hwd
  clear y0 y1 hWl
  go_wp2
  have y0 : wd.cell? ⟨w.heap.size, 0, none⟩ = some (.int .i64 2) := (blk_cell HW.out.2 0).trans rfl
  have y1 : wd.cell? ⟨w.heap.size, 1, none⟩ = some (.int .i64 10) := (blk_cell HW.out.2 1).trans rfl
  have hWl : w.heap.size < wd.heap.size := blk_lt HW.out.2
  go_cut [11, 12, 13] (fun s11 s12 s13 wc => s11 = .int .i64 0 ∧ s12 = .int .i64 40 ∧ s13 = .int .i64 0 ∧ Aside0 (AwW w wc) ∧ Aside0 (Kd.C k52 wc Ag 2 exG) ∧ Aside0 (Kd.C (Kd.int .i64) wc Ak 1 [0]))
  case first =>
    go_region_with (first
      | (go_at_call 18; refine (exCall _).mono ?_; rintro e w3 ⟨A3, c3, rfl, hc3, hC3, hb3⟩; have HW3 := Aside0.mk ((HW.out.step (by repeat (first | exact Below.refl _ _ | apply below_drew | apply pw_below_drewN))).step hb3); have HB3 := Aside0.mk (below_step (by repeat (first | exact Below.refl _ _ | apply below_drew | apply pw_below_drewN) : Below wd.heap.size wd _) hb3); have y0 : w3.cell? ⟨w.heap.size, 0, none⟩ = some (.int .i64 2) := (blk_cell HW3.out.2 0).trans rfl; have y1 : w3.cell? ⟨w.heap.size, 1, none⟩ = some (.int .i64 10) := (blk_cell HW3.out.2 1).trans rfl; have HC3 := Aside0.mk hC3; clear hC3 hb3)
      | (go_at_call 14; refine (exTune A3 c3 _ (Kd.C_below HC3.out (by repeat (first | exact Below.refl _ _ | apply below_drew | apply pw_below_drewN))) hc3).mono ?_; rintro e w4 ⟨rfl, hb4⟩; have HW4 := Aside0.mk ((HW3.out.step (by repeat (first | exact Below.refl _ _ | apply below_drew | apply pw_below_drewN))).step hb4); have HB4 := Aside0.mk (below_step HB3.out (below_step (by repeat (first | exact Below.refl _ _ | apply below_drew | apply pw_below_drewN) : Below w3.heap.size w3 _) hb4))))
    all_goals
      go_wp2_with fail
      go_meet
      exact ⟨rfl, rfl, rfl, HW4, ⟨Kd.C_below HCG.out HB4.out⟩, ⟨Kd.C_below HCK.out HB4.out⟩⟩
  case rest =>
  obtain ⟨rfl, rfl, rfl, HW, HCG, HCK⟩ := hcut
  clear y0 y1 hWl
  have HGE := Aside0.mk (fun (A1 : Option Addr) (c1 : Nat) (W : World) (h0 : Kd.C k52 W Ag 2 exG) (h1 : Kd.C k52 W A1 2 exG) (h2 : 2 ≤ c1) => polderlaw31_gaps.calls 5 Ag cg exG A1 c1 exG true W h0 hcg h1 h2 (by kernel_rfl))
  have HIE := Aside0.mk (fun (A1 : Option Addr) (c1 : Nat) (W : World) (h0 : Kd.C (Kd.int .i64) W Ak 1 [0]) (h1 : Kd.C (Kd.int .i64) W A1 1 [0]) (h2 : 1 ≤ c1) => polderlaw31_ints.calls 5 Ak ck [0] A1 c1 [0] true W h0 hck h1 h2 (by kernel_rfl))
  go_wp2_with (first
    | (go_at_call 19; refine (HGE.out _ _ _ (Kd.C_below HCG.out (below_alloc (Below.refl _ _) _)) (litG _) (Nat.le_refl _)).mono ?_; rintro e w5 ⟨rfl, hd5⟩; have HB5 := Aside0.mk (below_step (below_alloc (Below.refl _ _) _) hd5.below))
    | (go_at_call 20; refine (HIE.out _ _ _ (Kd.C_below HCK.out (below_step HB5.out (below_alloc (Below.refl _ _) _))) (litI _) (Nat.le_refl _)).mono ?_; rintro e w6 ⟨rfl, hd6⟩; have HB6 := Aside0.mk (below_step HB5.out (below_step (below_alloc (Below.refl _ _) _) hd6.below))))
  go_ret
  exact ⟨rfl, below_step HW.out.1 HB6.out⟩
end Go.Proofs.Ytdkfmbammdmohaa.PPolicyCosts

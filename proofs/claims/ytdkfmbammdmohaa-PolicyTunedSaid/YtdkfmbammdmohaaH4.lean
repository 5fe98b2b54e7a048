/- The walk of PolicyTwice. -/
import Derived.Test.YtdkfmbammdmohaaH2
import Derived.Test.YtdkfmbammdmohaaH3
import Derived.Deep.RegionHeld3
namespace Go.Proofs.Ytdkfmbammdmohaa.PPolicyCosts
open Go.RowKit Go.Proofs.YtdkfmbammdmohaaW.PrintWords Go.Proofs.YtdkfmbammdmohaaW.PrintLast Go.Proofs.YtdkfmbammdmohaaW.PrintMore
open Go.Proofs.YtdkfmbammdmohaaM Go.Proofs.YtdkfmbammdmohaaS
attribute [local go_sem] max2_int min2_int max_two min_two max_three min_three max_four min_four
set_option linter.unusedVariables false
set_option linter.unusedSimpArgs false

theorem far_any (A : Option Addr) (c : Nat) (l : List S73) (w : World) (hC : Kd.C k73 w A l.length l) (hc : l.length ≤ c) (m : Int) (b : Bool) (hf : polderlaw31_far.f l m = some b) :
    Calls Try.prog 7 #[.slice A l.length c, .int .i64 m] w fun e w' => e = .returned (.bool b) ∧ Below w.heap.size w w' :=
  (polderlaw31_far.calls A c l m b w hC hc hf).mono fun e w' h => ⟨h.1, h.2.below⟩
theorem far210 (l : List S73) : polderlaw31_far.f l 210 = some (decide ((l.length : Int) > 210)) := by
  unfold polderlaw31_far.f
  split
  · rw [if_neg (by omega)]
  · rfl
theorem least_bad (A : Option Addr) (c : Nat) (l : List S73) (hold win : Int) (w : World) (hC : Kd.C k73 w A l.length l) (hc : l.length ≤ c) (h : bothE l hold win ≠ 0) :
    Calls Try.prog 11 #[.slice A l.length c, .agg #[.int .i64 hold, .int .i64 win]] w fun e w' => e = .returned (.tuple #[.slice none 0 0, .int .i64 0, .int .i64 (bothE l hold win)]) ∧ Below w.heap.size w w' :=
  (leastF_any A c l hold win w hC hc).mono fun e w' h2 => by
    obtain ⟨hb, h3 | h3⟩ := h2
    · exact ⟨h3.2, hb⟩
    · exact absurd h3.1 h
theorem least_ok (A : Option Addr) (c : Nat) (l : List S73) (hold win : Int) (w : World) (hC : Kd.C k73 w A l.length l) (hc : l.length ≤ c) (h : bothE l hold win = 0) :
    Calls Try.prog 11 #[.slice A l.length c, .agg #[.int .i64 hold, .int .i64 win]] w fun e w' => ∃ v, e = .returned (.tuple #[v, .int .i64 (cntOf l * win + sumB hold win (gapsOf l)), .int .i64 0]) ∧ Below w.heap.size w w' :=
  (leastF_any A c l hold win w hC hc).mono fun e w' h2 => by
    obtain ⟨hb, h3 | ⟨_, Ak, ck, gs, h4, h5, rfl, h6, h7⟩⟩ := h2
    · exact absurd h h3.1
    · exact ⟨_, by rw [least_is h h4], hb⟩
theorem age_ok (A : Option Addr) (c : Nat) (l : List S73) (hold win age : Int) (w : World) (hC : Kd.C k73 w A l.length l) (hc : l.length ≤ c) (h : bothE l hold win = 0) (h0 : 0 ≤ age) (h1 : age ≤ 1000000000) :
    Calls Try.prog 9 #[.slice A l.length c, .agg #[.int .i64 hold, .int .i64 win], .agg #[.int .i64 3, .int .i64 age, .int .i64 0]] w fun e w' => e = .returned (.tuple #[.int .i64 (costV hold win age l), .int .i64 0]) ∧ Below w.heap.size w w' :=
  (costF_any A c l hold win 3 age 0 w hC hc).mono fun e w' h2 => by
    have hpo : polOK 3 age 0 = true := by simp [polOK, outB]; omega
    obtain ⟨hb, h3 | h3 | ⟨_, _, v, rfl, h3⟩⟩ := h2
    · exact absurd h h3.1
    · rw [hpo] at h3; exact absurd h3.2.1 (by decide)
    · refine ⟨?_, hb⟩
      rcases h3 with h3 | h3 | h3 | h3
      · exact absurd h3.1 (by decide)
      · exact absurd h3.1 (by decide)
      · rw [h3.2]
      · exact absurd h3.1 (by decide)

set_option maxRecDepth 100000 in
set_option maxHeartbeats 8000000 in
theorem twice_any (A : Option Addr) (c : Nat) (l : List S73) (hold win : Int) (w : World) (hC : Kd.C k73 w A l.length l) (hc : l.length ≤ c) :
    Calls Try.prog 4 #[.slice A l.length c, .agg #[.int .i64 hold, .int .i64 win]] w fun e w' => e = .returned (.bool true) ∧ Below w.heap.size w w' := by
  have hbx : Below w.heap.size w (w.alloc (.cells #[.int .i64 hold, .int .i64 win] 24)) := below_alloc (Below.refl w.heap.size w) _
  have HFA := Aside0.mk (fun W (hW : Below w.heap.size w W) => far_any A c l W (Kd.C_below hC hW) hc 210 _ (far210 l))
  have HLB := Aside0.mk (fun W (hW : Below w.heap.size w W) => least_bad A c l hold win W (Kd.C_below hC hW) hc)
  have HLO := Aside0.mk (fun W (hW : Below w.heap.size w W) => least_ok A c l hold win W (Kd.C_below hC hW) hc)
  have HAO := Aside0.mk (fun W (hW : Below w.heap.size w W) => fun age => age_ok A c l hold win age W (Kd.C_below hC hW) hc)
  have HBX := Aside0.mk hbx
  have HY := Aside0.mk (blk_new w (.cells #[.int .i64 hold, .int .i64 win] 24))
  clear hC hbx
  cases hfar : decide ((l.length : Int) > 210) with
  | true =>
    rw [hfar] at HFA
    go_enter Try.func4, Try.ntmps4
    go_wp2_with (first
      | (go_at_call 7; refine (HFA.out _ HBX.out).mono ?_; rintro e w1 ⟨rfl, hb1⟩; have HB1 := Aside0.mk (below_step HBX.out hb1))
      | (go_at_call 8; refine (awake_any _).mono ?_; rintro e w2 ⟨rfl, hb2⟩))
    go_ret
    exact ⟨rfl, below_step HB1.out hb2⟩
  | false =>
    rw [hfar] at HFA
    clear hfar
    by_cases hbe : bothE l hold win = 0
    · obtain ⟨hck, b0, b1, b2, b3⟩ := bothE_zero hbe
      have HBE := Aside0.mk hbe
      clear hck
      by_cases hh : hold < 1
      · generalize cntOf l * win + sumB hold win (gapsOf l) = least at *
        go_enter Try.func4, Try.ntmps4
        go_wp2_with (first
          | (go_at_call 7; refine (HFA.out _ HBX.out).mono ?_; rintro e w1 ⟨rfl, hb1⟩; have HB1 := Aside0.mk (below_step HBX.out hb1); have HY1 := Aside0.mk (blk_below HY.out hb1); have y0 : w1.cell? ⟨w.heap.size, 0, none⟩ = some (.int .i64 hold) := (blk_cell HY1.out 0).trans rfl; have y1 : w1.cell? ⟨w.heap.size, 1, none⟩ = some (.int .i64 win) := (blk_cell HY1.out 1).trans rfl; have hYl : w.heap.size < w1.heap.size := blk_lt HY1.out; clear hb1)
          | (go_at_call 11; refine (HLO.out _ HB1.out HBE.out).mono ?_; rintro e w3 ⟨v3, rfl, hb3⟩; have HB3 := Aside0.mk (below_step HB1.out hb3); have HY3 := Aside0.mk (blk_below HY1.out hb3); have y0 : w3.cell? ⟨w.heap.size, 0, none⟩ = some (.int .i64 hold) := (blk_cell HY3.out 0).trans rfl; have y1 : w3.cell? ⟨w.heap.size, 1, none⟩ = some (.int .i64 win) := (blk_cell HY3.out 1).trans rfl; have hYl3 : w.heap.size < w3.heap.size := blk_lt HY3.out; clear hb3)
          | (go_at_call 8; refine (awake_any _).mono ?_; rintro e w2 ⟨rfl, hb2⟩))
        go_ret
        exact ⟨rfl, below_step HB3.out hb2⟩
      · have tw := twice_is hbe (by omega)
        have hq0 : 0 ≤ win / hold := Int.ediv_nonneg b2 (by omega)
        have hag : 0 ≤ mn (win / hold) 1000000000 ∧ mn (win / hold) 1000000000 ≤ 1000000000 := by unfold mn; split <;> omega
        have hq1 : win / hold ≤ win := Int.ediv_le_self _ b2
        have HTD := Aside0.mk (Int.tdiv_eq_ediv_of_nonneg (b := hold) b2)
        obtain ⟨n, hn⟩ : ∃ n, costV hold win (mn (win / hold) 1000000000) l = n := ⟨_, rfl⟩
        obtain ⟨least, hl⟩ : ∃ n, cntOf l * win + sumB hold win (gapsOf l) = n := ⟨_, rfl⟩
        have hage : (if 1000000000 < IntKind.i64.wrap (win.tdiv hold) then 1000000000 else IntKind.i64.wrap (win.tdiv hold)) = mn (win / hold) 1000000000 := by
          rw [HTD.out, IntWalk.i64_in _ (by omega)]
          rfl
        have HAG : Aside0 (∀ W, Below w.heap.size w W → Calls Try.prog 9 #[.slice A l.length c, .agg #[.int .i64 hold, .int .i64 win], .agg #[.int .i64 3, .int .i64 (if 1000000000 < IntKind.i64.wrap (win.tdiv hold) then 1000000000 else IntKind.i64.wrap (win.tdiv hold)), .int .i64 0]] W fun e w' => e = .returned (.tuple #[.int .i64 n, .int .i64 0]) ∧ Below W.heap.size W w') :=
          ⟨fun W hW => by rw [hage, ← hn]; exact HAO.out W hW _ HBE.out hag.1 hag.2⟩
        clear hage
        have HLQ : Aside0 (∀ W, Below w.heap.size w W → Calls Try.prog 11 #[.slice A l.length c, .agg #[.int .i64 hold, .int .i64 win]] W fun e w' => ∃ v, e = .returned (.tuple #[v, .int .i64 least, .int .i64 0]) ∧ Below W.heap.size W w') :=
          ⟨fun W hW => by rw [← hl]; exact HLO.out W hW HBE.out⟩
        rw [hn, hl] at tw
        obtain ⟨t0, t1, t2, t3⟩ := tw
        have t4 : n - least ≤ least := by omega
        clear hbe hn hl HLO HLB HAO t2
        have hh1 : 1 ≤ hold := by omega
        have hh0 : ¬ hold = 0 := by omega
        have hhb : (hold == 0) = false := by simpa using hh0
        go_enter Try.func4, Try.ntmps4
        go_wp2_with (first
          | (go_at_call 7; refine (HFA.out _ HBX.out).mono ?_; rintro e w1 ⟨rfl, hb1⟩; have HB1 := Aside0.mk (below_step HBX.out hb1); have HY1 := Aside0.mk (blk_below HY.out hb1); have y0 : w1.cell? ⟨w.heap.size, 0, none⟩ = some (.int .i64 hold) := (blk_cell HY1.out 0).trans rfl; have y1 : w1.cell? ⟨w.heap.size, 1, none⟩ = some (.int .i64 win) := (blk_cell HY1.out 1).trans rfl; have hYl : w.heap.size < w1.heap.size := blk_lt HY1.out; clear hb1)
          | (go_at_call 11; refine (HLQ.out _ HB1.out).mono ?_; rintro e w3 ⟨v3, rfl, hb3⟩; have HB3 := Aside0.mk (below_step HB1.out hb3); have HY3 := Aside0.mk (blk_below HY1.out hb3); have y0 : w3.cell? ⟨w.heap.size, 0, none⟩ = some (.int .i64 hold) := (blk_cell HY3.out 0).trans rfl; have y1 : w3.cell? ⟨w.heap.size, 1, none⟩ = some (.int .i64 win) := (blk_cell HY3.out 1).trans rfl; have hYl3 : w.heap.size < w3.heap.size := blk_lt HY3.out; clear hb3))
        go_cut [8, 9] (fun s8 s9 wc => s8 = .int .i64 n ∧ s9 = .int .i64 0 ∧ Aside0 (Below w.heap.size w wc))
        case first =>
          go_region_held3 (fun w' => w'.cell? ⟨w.heap.size, 0, none⟩ = some (.int .i64 hold) ∧ w'.cell? ⟨w.heap.size, 1, none⟩ = some (.int .i64 win))
            (first | go_keep | (refine ⟨?_, ?_⟩ <;> first | assumption | go_simp))
            ((go_at_call 9; refine (HAG.out _ (below_step HB3.out (by repeat (first | exact Below.refl _ _ | apply below_drew | apply pw_below_drewN)))).mono ?_; rintro e w4 ⟨rfl, hb4⟩; have HB4 := Aside0.mk (below_step (below_step HB3.out (by repeat (first | exact Below.refl _ _ | apply below_drew | apply pw_below_drewN))) hb4); have hz4 := below_step (show Below w3.heap.size w3 _ by repeat (first | exact Below.refl _ _ | apply below_drew | apply pw_below_drewN)) hb4; have y0 : w4.cell? ⟨w.heap.size, 0, none⟩ = some (.int .i64 hold) := (blk_cell (blk_below HY3.out hz4) 0).trans rfl; have y1 : w4.cell? ⟨w.heap.size, 1, none⟩ = some (.int .i64 win) := (blk_cell (blk_below HY3.out hz4) 1).trans rfl; dsimp only))
          go_wp2_with fail
          all_goals
            go_meet
            exact ⟨rfl, rfl, HB4⟩
        case rest =>
        obtain ⟨rfl, rfl, HB4⟩ := hcut
        go_wp2_with (go_at_call 8; refine (awake_any _).mono ?_; rintro e w2 ⟨rfl, hb2⟩)
        go_ret
        exact ⟨rfl, below_step HB4.out hb2⟩
    · have HBE := Aside0.mk hbe
      have hn : (bothE l hold win == 0) = false := by simpa using hbe
      generalize bothE l hold win = be at *
      go_enter Try.func4, Try.ntmps4
      go_wp2_with (first
        | (go_at_call 7; refine (HFA.out _ HBX.out).mono ?_; rintro e w1 ⟨rfl, hb1⟩; have HB1 := Aside0.mk (below_step HBX.out hb1); have y0 : w1.cell? ⟨w.heap.size, 0, none⟩ = some (.int .i64 hold) := (blk_cell (blk_below HY.out hb1) 0).trans rfl; have y1 : w1.cell? ⟨w.heap.size, 1, none⟩ = some (.int .i64 win) := (blk_cell (blk_below HY.out hb1) 1).trans rfl; have hYl : w.heap.size < w1.heap.size := blk_lt (blk_below HY.out hb1))
        | (go_at_call 11; refine (HLB.out _ HB1.out HBE.out).mono ?_; rintro e w3 ⟨rfl, hb3⟩)
        | (go_at_call 8; refine (awake_any _).mono ?_; rintro e w2 ⟨rfl, hb2⟩))
      go_ret
      exact ⟨rfl, below_step HB1.out (below_step hb3 hb2)⟩
end Go.Proofs.Ytdkfmbammdmohaa.PPolicyCosts

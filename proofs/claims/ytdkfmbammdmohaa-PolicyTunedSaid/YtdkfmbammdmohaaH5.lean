/- The walk of PolicyTuned. -/
import Derived.Test.YtdkfmbammdmohaaH4
import Derived.Test.YtdkfmbammdmohaaQ2
import Derived.Test.YtdkfmbammdmohaaQ3
namespace Go.Proofs.Ytdkfmbammdmohaa.PPolicyCosts
open Go.RowKit Go.Proofs.YtdkfmbammdmohaaW.PrintWords Go.Proofs.YtdkfmbammdmohaaW.PrintLast Go.Proofs.YtdkfmbammdmohaaW.PrintMore
open Go.Proofs.YtdkfmbammdmohaaM Go.Proofs.YtdkfmbammdmohaaS
attribute [local go_sem] max2_int min2_int max_two min_two max_three min_three max_four min_four
set_option linter.unusedVariables false
set_option linter.unusedSimpArgs false

def costE (hold win : Int) : Int := if outB hold 1000 || outB win 1000000000 then 7 else 0
theorem ccost_any (hold win : Int) (w : World) : Calls Try.prog 13 #[.agg #[.int .i64 hold, .int .i64 win]] w fun e w' => e = .returned (.int .i64 (costE hold win)) ∧ Below w.heap.size w w' := by
  refine polderref31_CheckCost.calls hold win _ w ?_
  unfold polderref31_CheckCost.f polderref31_from.f costE outB
  by_cases h1 : hold ≥ 0
  · by_cases h2 : hold ≤ 1000
    · by_cases h3 : win ≥ 0
      · by_cases h4 : win ≤ 1000000000
        · have e1 : ¬ hold < 0 := by omega
          have e2 : ¬ hold > 1000 := by omega
          have e3 : ¬ win < 0 := by omega
          have e4 : ¬ win > 1000000000 := by omega
          simp [h1, h2, h3, h4, e1, e2, e3, e4]
        · have e4 : win > 1000000000 := by omega
          simp [h1, h2, h3, h4, e4]
      · have e3 : win < 0 := by omega
        simp [h1, h2, h3, e3]
    · have e2 : hold > 1000 := by omega
      simp [h1, h2, e2]
  · have e1 : hold < 0 := by omega
    simp [h1, e1]
theorem bothE_is (l : List S73) (hold win : Int) : bothE l hold win = if chk l ≠ 0 then chk l else costE hold win := rfl

theorem tune_ok (A : Option Addr) (c : Nat) (l : List S73) (hold win : Int) (w : World) (hC : Kd.C k73 w A l.length l) (hc : l.length ≤ c) (h : bothE l hold win = 0) :
    Calls Try.prog 14 #[.slice A l.length c, .agg #[.int .i64 hold, .int .i64 win]] w fun e w' => e = .returned (.tuple #[.int .i64 (tuneR (fun a => costV hold win a l) (agesA (gapsOf l))).1, .int .i64 (tuneR (fun a => costV hold win a l) (agesA (gapsOf l))).2, .int .i64 0]) ∧ Below w.heap.size w w' :=
  (tuneF_any A c l hold win w hC hc).mono fun e w' h2 => by
    obtain ⟨hb, h3 | ⟨_, gs, hp, rfl⟩⟩ := h2
    · exact absurd h h3.1
    · exact ⟨by rw [agesA_perm hp], hb⟩

def TuBox (hold win : Int) (w W : World) : Prop := Below w.heap.size w W ∧ W.heap[w.heap.size]? = some (.cells #[.int .i64 hold, .int .i64 win] 24 (0, 0))
theorem TuBox.step {hold win : Int} {w W W' : World} (h : TuBox hold win w W) (hb : Below W.heap.size W W') : TuBox hold win w W' := ⟨below_step h.1 hb, blk_below h.2 hb⟩
theorem TuBox.c0 {hold win : Int} {w W : World} (h : TuBox hold win w W) : W.cell? ⟨w.heap.size, 0, none⟩ = some (.int .i64 hold) := (blk_cell h.2 0).trans rfl
theorem TuBox.c1 {hold win : Int} {w W : World} (h : TuBox hold win w W) : W.cell? ⟨w.heap.size, 1, none⟩ = some (.int .i64 win) := (blk_cell h.2 1).trans rfl

set_option maxRecDepth 100000 in
set_option maxHeartbeats 8000000 in
theorem tuned_any (A : Option Addr) (c : Nat) (l : List S73) (hold win age : Int) (w : World) (hC : Kd.C k73 w A l.length l) (hc : l.length ≤ c) :
    Calls Try.prog 5 #[.slice A l.length c, .agg #[.int .i64 hold, .int .i64 win], .int .i64 age] w fun e w' => e = .returned (.bool true) ∧ Below w.heap.size w w' := by
  have HX := Aside0.mk (show TuBox hold win w (w.alloc (.cells #[.int .i64 hold, .int .i64 win] 24)) from ⟨below_alloc (Below.refl w.heap.size w) _, blk_new w _⟩)
  have HFA := Aside0.mk (fun W (hW : TuBox hold win w W) => far_any A c l W (Kd.C_below hC hW.1) hc 210 _ (far210 l))
  have HCK := Aside0.mk (fun W (hW : TuBox hold win w W) => check_is A c l W (Kd.C_below hC hW.1) hc)
  have HCC := Aside0.mk (fun W => ccost_any hold win W)
  have HTU := Aside0.mk (fun W (hW : TuBox hold win w W) => tune_ok A c l hold win W (Kd.C_below hC hW.1) hc)
  have HAO := Aside0.mk (fun W (hW : TuBox hold win w W) => fun age => age_ok A c l hold win age W (Kd.C_below hC hW.1) hc)
  clear hC
  cases hfar : decide ((l.length : Int) > 210) with
  | true =>
    rw [hfar] at HFA
    clear hfar
    go_enter Try.func5, Try.ntmps5
    go_wp2_with (first
      | (go_at_call 7; refine (HFA.out _ HX.out).mono ?_; rintro e w1 ⟨rfl, hb1⟩; have HX1 := Aside0.mk (HX.out.step hb1); clear hb1)
      | (go_at_call 8; refine (awake_any _).mono ?_; rintro e w2 ⟨rfl, hb2⟩))
    go_ret
    exact ⟨rfl, below_step HX1.out.1 hb2⟩
  | false =>
    rw [hfar] at HFA
    clear hfar
    by_cases hck : chk l = 0
    · by_cases hce : costE hold win = 0
      · have hbe : bothE l hold win = 0 := by rw [bothE_is, if_neg (by simpa using hck)]; exact hce
        rw [hck] at HCK
        rw [hce] at HCC
        have HBE := Aside0.mk hbe
        clear hck hce
        by_cases ha0 : age < 0
        · go_enter Try.func5, Try.ntmps5
          go_wp2_with (first
            | (go_at_call 7; refine (HFA.out _ HX.out).mono ?_; rintro e w1 ⟨rfl, hb1⟩; have HX1 := Aside0.mk (HX.out.step hb1); clear hb1)
            | (go_at_call 12; refine (HCK.out _ HX1.out).mono ?_; rintro e w3 ⟨rfl, hb3⟩; have HX3 := Aside0.mk (HX1.out.step hb3); have y0 := HX3.out.c0; have y1 := HX3.out.c1; have hYl : w.heap.size < w3.heap.size := blk_lt HX3.out.2; clear hb3)
            | (go_at_call 13; refine (HCC.out _).mono ?_; rintro e w4 ⟨rfl, hb4⟩; have HX4 := Aside0.mk (HX3.out.step hb4); clear hb4)
            | (go_at_call 8; refine (awake_any _).mono ?_; rintro e w2 ⟨rfl, hb2⟩))
          go_ret
          exact ⟨rfl, below_step HX4.out.1 hb2⟩
        · by_cases ha1 : 1000000000 < age
          · have ha0' : 0 ≤ age := by omega
            clear ha0
            go_enter Try.func5, Try.ntmps5
            go_wp2_with (first
              | (go_at_call 7; refine (HFA.out _ HX.out).mono ?_; rintro e w1 ⟨rfl, hb1⟩; have HX1 := Aside0.mk (HX.out.step hb1); clear hb1)
              | (go_at_call 12; refine (HCK.out _ HX1.out).mono ?_; rintro e w3 ⟨rfl, hb3⟩; have HX3 := Aside0.mk (HX1.out.step hb3); have y0 := HX3.out.c0; have y1 := HX3.out.c1; have hYl : w.heap.size < w3.heap.size := blk_lt HX3.out.2; clear hb3)
              | (go_at_call 13; refine (HCC.out _).mono ?_; rintro e w4 ⟨rfl, hb4⟩; have HX4 := Aside0.mk (HX3.out.step hb4); clear hb4)
              | (go_at_call 8; refine (awake_any _).mono ?_; rintro e w2 ⟨rfl, hb2⟩))
            go_ret
            exact ⟨rfl, below_step HX4.out.1 hb2⟩
          · have ha2 : 0 ≤ age := by omega
            have ha3 : age ≤ 1000000000 := by omega
            have law := tune_law hbe (List.Perm.refl (gapsOf l))
            obtain ⟨a, ha⟩ : ∃ a, (tuneR (fun a => costV hold win a l) (agesA (gapsOf l))).1 = a := ⟨_, rfl⟩
            obtain ⟨n, hn⟩ : ∃ n, (tuneR (fun a => costV hold win a l) (agesA (gapsOf l))).2 = n := ⟨_, rfl⟩
            rw [ha, hn] at law
            obtain ⟨t0, t1, t2, t3, t4⟩ := law
            have t3 := t3 age ha2
            have t4 := t4 age ha2
            obtain ⟨m, hm⟩ : ∃ m, costV hold win age l = m := ⟨_, rfl⟩
            rw [hm] at t3 t4
            have HTQ : Aside0 (∀ W, TuBox hold win w W → Calls Try.prog 14 #[.slice A l.length c, .agg #[.int .i64 hold, .int .i64 win]] W fun e w' => e = .returned (.tuple #[.int .i64 a, .int .i64 n, .int .i64 0]) ∧ Below W.heap.size W w') :=
              ⟨fun W hW => by rw [← ha, ← hn]; exact HTU.out W hW hbe⟩
            have HA1 : Aside0 (∀ W, TuBox hold win w W → Calls Try.prog 9 #[.slice A l.length c, .agg #[.int .i64 hold, .int .i64 win], .agg #[.int .i64 3, .int .i64 a, .int .i64 0]] W fun e w' => e = .returned (.tuple #[.int .i64 n, .int .i64 0]) ∧ Below W.heap.size W w') :=
              ⟨fun W hW => by rw [t2]; exact HAO.out W hW a hbe t0 t1⟩
            have HA2 : Aside0 (∀ W, TuBox hold win w W → Calls Try.prog 9 #[.slice A l.length c, .agg #[.int .i64 hold, .int .i64 win], .agg #[.int .i64 3, .int .i64 age, .int .i64 0]] W fun e w' => e = .returned (.tuple #[.int .i64 m, .int .i64 0]) ∧ Below W.heap.size W w') :=
              ⟨fun W hW => by rw [← hm]; exact HAO.out W hW age hbe ha2 ha3⟩
            clear ha0 ha1 hbe ha hn hm t2 HTU HAO
            by_cases hlt : age < a
            · have t5 := t4 hlt
              clear t4
              go_enter Try.func5, Try.ntmps5
              go_wp2_with (first
                | (go_at_call 7; refine (HFA.out _ HX.out).mono ?_; rintro e w1 ⟨rfl, hb1⟩; have HX1 := Aside0.mk (HX.out.step hb1); clear hb1)
                | (go_at_call 12; refine (HCK.out _ HX1.out).mono ?_; rintro e w3 ⟨rfl, hb3⟩; have HX3 := Aside0.mk (HX1.out.step hb3); have y0 := HX3.out.c0; have y1 := HX3.out.c1; have hYl : w.heap.size < w3.heap.size := blk_lt HX3.out.2; clear hb3)
                | (go_at_call 13; refine (HCC.out _).mono ?_; rintro e w4 ⟨rfl, hb4⟩; have HX4 := Aside0.mk (HX3.out.step hb4); have y0 := HX4.out.c0; have y1 := HX4.out.c1; have hYl4 : w.heap.size < w4.heap.size := blk_lt HX4.out.2; clear hb4)
                | (go_at_call 14; refine (HTQ.out _ HX4.out).mono ?_; rintro e w5 ⟨rfl, hb5⟩; have HX5 := Aside0.mk (HX4.out.step hb5); have y0 := HX5.out.c0; have y1 := HX5.out.c1; have hYl5 : w.heap.size < w5.heap.size := blk_lt HX5.out.2; clear hb5)
                | (go_at_call_of 9 (Value.int IntKind.i64 a); refine (HA1.out _ HX5.out).mono ?_; rintro e w6 ⟨rfl, hb6⟩; have HX6 := Aside0.mk (HX5.out.step hb6); have y0 := HX6.out.c0; have y1 := HX6.out.c1; have hYl6 : w.heap.size < w6.heap.size := blk_lt HX6.out.2; clear hb6)
                | (go_at_call_of 9 (Value.int IntKind.i64 age); refine (HA2.out _ HX6.out).mono ?_; rintro e w7 ⟨rfl, hb7⟩; have HX7 := Aside0.mk (HX6.out.step hb7); clear hb7)
                | (go_at_call 8; refine (awake_any _).mono ?_; rintro e w2 ⟨rfl, hb2⟩))
              go_ret
              exact ⟨rfl, below_step HX7.out.1 hb2⟩
            · have t5 : a ≤ age := by omega
              clear t4 hlt
              go_enter Try.func5, Try.ntmps5
              go_wp2_with (first
                | (go_at_call 7; refine (HFA.out _ HX.out).mono ?_; rintro e w1 ⟨rfl, hb1⟩; have HX1 := Aside0.mk (HX.out.step hb1); clear hb1)
                | (go_at_call 12; refine (HCK.out _ HX1.out).mono ?_; rintro e w3 ⟨rfl, hb3⟩; have HX3 := Aside0.mk (HX1.out.step hb3); have y0 := HX3.out.c0; have y1 := HX3.out.c1; have hYl : w.heap.size < w3.heap.size := blk_lt HX3.out.2; clear hb3)
                | (go_at_call 13; refine (HCC.out _).mono ?_; rintro e w4 ⟨rfl, hb4⟩; have HX4 := Aside0.mk (HX3.out.step hb4); have y0 := HX4.out.c0; have y1 := HX4.out.c1; have hYl4 : w.heap.size < w4.heap.size := blk_lt HX4.out.2; clear hb4)
                | (go_at_call 14; refine (HTQ.out _ HX4.out).mono ?_; rintro e w5 ⟨rfl, hb5⟩; have HX5 := Aside0.mk (HX4.out.step hb5); have y0 := HX5.out.c0; have y1 := HX5.out.c1; have hYl5 : w.heap.size < w5.heap.size := blk_lt HX5.out.2; clear hb5)
                | (go_at_call_of 9 (Value.int IntKind.i64 a); refine (HA1.out _ HX5.out).mono ?_; rintro e w6 ⟨rfl, hb6⟩; have HX6 := Aside0.mk (HX5.out.step hb6); have y0 := HX6.out.c0; have y1 := HX6.out.c1; have hYl6 : w.heap.size < w6.heap.size := blk_lt HX6.out.2; clear hb6)
                | (go_at_call_of 9 (Value.int IntKind.i64 age); refine (HA2.out _ HX6.out).mono ?_; rintro e w7 ⟨rfl, hb7⟩; have HX7 := Aside0.mk (HX6.out.step hb7); clear hb7)
                | (go_at_call 8; refine (awake_any _).mono ?_; rintro e w2 ⟨rfl, hb2⟩))
              go_ret
              exact ⟨rfl, below_step HX7.out.1 hb2⟩
      · rw [hck] at HCK
        have hn : (costE hold win == 0) = false := by simpa using hce
        have hce' : costE hold win ≠ 0 := hce
        clear hck hce
        generalize costE hold win = ce at *
        go_enter Try.func5, Try.ntmps5
        go_wp2_with (first
          | (go_at_call 7; refine (HFA.out _ HX.out).mono ?_; rintro e w1 ⟨rfl, hb1⟩; have HX1 := Aside0.mk (HX.out.step hb1); clear hb1)
          | (go_at_call 12; refine (HCK.out _ HX1.out).mono ?_; rintro e w3 ⟨rfl, hb3⟩; have HX3 := Aside0.mk (HX1.out.step hb3); have y0 := HX3.out.c0; have y1 := HX3.out.c1; have hYl : w.heap.size < w3.heap.size := blk_lt HX3.out.2; clear hb3)
          | (go_at_call 13; refine (HCC.out _).mono ?_; rintro e w4 ⟨rfl, hb4⟩; have HX4 := Aside0.mk (HX3.out.step hb4); clear hb4)
          | (go_at_call 8; refine (awake_any _).mono ?_; rintro e w2 ⟨rfl, hb2⟩))
        go_ret
        exact ⟨rfl, below_step HX4.out.1 hb2⟩
    · have hn : (chk l == 0) = false := by simpa using hck
      generalize chk l = ck at *
      go_enter Try.func5, Try.ntmps5
      go_wp2_with (first
        | (go_at_call 7; refine (HFA.out _ HX.out).mono ?_; rintro e w1 ⟨rfl, hb1⟩; have HX1 := Aside0.mk (HX.out.step hb1); clear hb1)
        | (go_at_call 12; refine (HCK.out _ HX1.out).mono ?_; rintro e w3 ⟨rfl, hb3⟩; have HX3 := Aside0.mk (HX1.out.step hb3); have y0 := HX3.out.c0; have y1 := HX3.out.c1; have hYl : w.heap.size < w3.heap.size := blk_lt HX3.out.2; clear hb3)
        | (go_at_call 8; refine (awake_any _).mono ?_; rintro e w2 ⟨rfl, hb2⟩))
      go_ret
      exact ⟨rfl, below_step HX3.out.1 hb2⟩
end Go.Proofs.Ytdkfmbammdmohaa.PPolicyCosts

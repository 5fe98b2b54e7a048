/- policy.Cost. -/
import Derived.Test.YtdkfmbammdmohaaG1
import Derived.Deep.RegionWith
namespace Go.Proofs.Ytdkfmbammdmohaa.PPolicyCosts
open Go.RowKit Go.Proofs.YtdkfmbammdmohaaW.PrintWords Go.Proofs.YtdkfmbammdmohaaW.PrintLast Go.Proofs.YtdkfmbammdmohaaW.PrintMore
open Go.Proofs.YtdkfmbammdmohaaM Go.Proofs.YtdkfmbammdmohaaS
attribute [local go_sem] max2_int min2_int max_two min_two max_three min_three max_four min_four
set_option linter.unusedVariables false
set_option linter.unusedSimpArgs false

theorem both_bad (A : Option Addr) (c : Nat) (l : List S73) (hold win : Int) (w : World) (hC : Kd.C k73 w A l.length l) (hc : l.length ≤ c) (h : bothE l hold win ≠ 0) :
    Calls Try.prog 21 #[.slice A l.length c, .agg #[.int .i64 hold, .int .i64 win]] w fun e w' => e = .returned (.tuple #[.pointer none, .int .i64 (bothE l hold win)]) ∧ Below w.heap.size w w' :=
  (both_any A c l hold win w hC hc).mono fun e w' h2 => by
    obtain ⟨hb, hr | hr⟩ := h2
    · exact ⟨hr.2, hb⟩
    · exact absurd hr.1 h
theorem both_ok (A : Option Addr) (c : Nat) (l : List S73) (hold win : Int) (w : World) (hC : Kd.C k73 w A l.length l) (hc : l.length ≤ c) (h : bothE l hold win = 0) :
    Calls Try.prog 21 #[.slice A l.length c, .agg #[.int .i64 hold, .int .i64 win]] w fun e w' => ∃ T base gs, e = .returned (.tuple #[.pointer (some ⟨T, 0, none⟩), .int .i64 0]) ∧ gs.Perm (gapsOf l) ∧ gs.Pairwise (fun x y => decide (cmpGap y x < 0) = false) ∧ TraceAt w' base T (.slice A l.length c) gs (lastOf l) (cntOf l) (endOf l) ∧ Below w.heap.size w w' :=
  (both_any A c l hold win w hC hc).mono fun e w' h2 => by
    obtain ⟨hb, hr | ⟨_, base, T, gs, _, h1, h2, h3, h4⟩⟩ := h2
    · exact absurd h hr.1
    · exact ⟨T, base, gs, h1, h2, h3, h4, hb⟩

def polOK (kind age most : Int) : Bool := (kind == 1 && age == 0 && most == 0) || (kind == 2 && age == 0 && most == 0) || (kind == 3 && !outB age 1000000000 && most == 0) || (kind == 4 && age == 0 && !outB most 1024)
/-- What Cost says of a proper trace and policy. -/
def CostV (l : List S73) (hold win kind age most v : Int) : Prop :=
  (kind = 1 ∧ v = costV hold win 1000000000 l) ∨ (kind = 2 ∧ v = costV hold win 0 l) ∨ (kind = 3 ∧ v = costV hold win age l) ∨
    (kind = 4 ∧ ∃ ss : List S90, ss.Perm (stepsOf l) ∧ ss.Pairwise (fun x y => ltOf cmpStep y x = false) ∧ v = mostQ hold win most (endOf l) ss)
def CostPo (l : List S73) (hold win kind age most : Int) (w : World) (en : Ending) (w' : World) : Prop :=
  Below w.heap.size w w' ∧ ((bothE l hold win ≠ 0 ∧ en = .returned (.tuple #[.int .i64 0, .int .i64 (bothE l hold win)])) ∨
    (bothE l hold win = 0 ∧ polOK kind age most = false ∧ en = .returned (.tuple #[.int .i64 0, .int .i64 2])) ∨
    (bothE l hold win = 0 ∧ polOK kind age most = true ∧ ∃ v, en = .returned (.tuple #[.int .i64 v, .int .i64 0]) ∧ CostV l hold win kind age most v))

def F9 (T base : Nat) (lv : Value) (gs : List S52) (l : List S73) (hold win kind age most : Int) (w W : World) : Prop :=
  Below w.heap.size w W ∧ W.heap[w.heap.size]? = some (.cells #[.int .i64 hold, .int .i64 win] 24 (0, 0)) ∧ W.heap[w.heap.size + 1]? = some (.cells #[.int .i64 kind, .int .i64 age, .int .i64 most] 26 (0, 0)) ∧ TraceAt W base T lv gs (lastOf l) (cntOf l) (endOf l)
theorem F9.step {T base : Nat} {lv : Value} {gs : List S52} {l : List S73} {hold win kind age most : Int} {w W W' : World} (h : F9 T base lv gs l hold win kind age most w W) (hb : Below W.heap.size W W') : F9 T base lv gs l hold win kind age most w W' :=
  ⟨below_step h.1 hb, blk_below h.2.1 hb, blk_below h.2.2.1 hb, h.2.2.2.below hb⟩

set_option maxRecDepth 100000 in
set_option maxHeartbeats 8000000 in
theorem costF_any (A : Option Addr) (c : Nat) (l : List S73) (hold win kind age most : Int) (w : World) (hC : Kd.C k73 w A l.length l) (hc : l.length ≤ c) :
    Calls Try.prog 9 #[.slice A l.length c, .agg #[.int .i64 hold, .int .i64 win], .agg #[.int .i64 kind, .int .i64 age, .int .i64 most]] w (CostPo l hold win kind age most w) := by
  have hCx := Kd.C_below hC (below_alloc (below_alloc (Below.refl w.heap.size w) (.cells #[.int .i64 hold, .int .i64 win] 24)) (.cells #[.int .i64 kind, .int .i64 age, .int .i64 most] 26))
  have hbx : Below w.heap.size w ((w.alloc (.cells #[.int .i64 hold, .int .i64 win] 24)).alloc (.cells #[.int .i64 kind, .int .i64 age, .int .i64 most] 26)) := below_alloc (below_alloc (Below.refl w.heap.size w) _) _
  by_cases hbe : bothE l hold win = 0
  · have HOP := Aside0.mk (both_ok A c l hold win _ hCx hc hbe)
    have HBE := Aside0.mk hbe
    obtain ⟨hck, b0, b1, b2, b3⟩ := bothE_zero hbe
    have HCK := Aside0.mk hck
    have HBX := Aside0.mk hbx
    have HCC := Aside0.mk hC
    have HY := Aside0.mk (blk_alloc (blk_new w (.cells #[.int .i64 hold, .int .i64 win] 24)) (.cells #[.int .i64 kind, .int .i64 age, .int .i64 most] 26))
    have HZ := Aside0.mk (blk_new (w.alloc (.cells #[.int .i64 hold, .int .i64 win] 24)) (.cells #[.int .i64 kind, .int .i64 age, .int .i64 most] 26))
    clear hCx hC hbe hck hbx
    go_enter Try.func9, Try.ntmps9
    go_wp2_with (go_at_call 21; refine HOP.out.mono ?_; rintro e w1 ⟨T, base, gs, rfl, hp, hs, hT, hb⟩)
    have HP := Aside0.mk hp
    refine genW (F9 T base (.slice A l.length c) gs l hold win kind age most w) ⟨below_step HBX.out hb, blk_below HY.out hb, by have := blk_below HZ.out hb; rw [World.size_alloc] at this; exact this, hT⟩ ?_
    clear hp hs hT hb HY HZ HOP HBX
    rintro wq ⟨hb, hY, hZ, hT⟩
    have z1 : wq.cell? ⟨w.heap.size + 1, 1, none⟩ = some (.int .i64 age) := (blk_cell hZ 1).trans rfl
    have z2 : wq.cell? ⟨w.heap.size + 1, 2, none⟩ = some (.int .i64 most) := (blk_cell hZ 2).trans rfl
    have HF := Aside0.mk (show F9 T base (.slice A l.length c) gs l hold win kind age most w wq from ⟨hb, hY, hZ, hT⟩)
    clear hb hY hZ hT
    go_quiet (fail)
    refine genW (F9 T base (.slice A l.length c) gs l hold win kind age most w) (HF.out.step (pw_below_drewN (Below.refl _ _) _)) ?_
    clear z1 z2 HF
    intro wq hF
    have HF := Aside0.mk hF
    have y0 : wq.cell? ⟨w.heap.size, 0, none⟩ = some (.int .i64 hold) := (blk_cell hF.2.1 0).trans rfl
    have y1 : wq.cell? ⟨w.heap.size, 1, none⟩ = some (.int .i64 win) := (blk_cell hF.2.1 1).trans rfl
    have z0 : wq.cell? ⟨w.heap.size + 1, 0, none⟩ = some (.int .i64 kind) := (blk_cell hF.2.2.1 0).trans rfl
    clear hF
    by_cases hk1 : kind = 1
    · subst hk1
      by_cases ha : age = 0
      · subst ha
        by_cases hm : most = 0
        · subst hm
          have HPO := Aside0.mk (show polOK 1 0 0 = true by decide)
          go_wp2_with (go_at_call 24; refine (outside_any _ _ _).mono ?_; rintro e w' ⟨rfl, rfl⟩)
          go_region_with (first
            | (go_at_call 23; refine (aged_any _ _).mono ?_; rintro e w3 ⟨B, rfl, hsz, hcB, hb3⟩; have HF3 := Aside0.mk ((HF.out.step (by repeat (first | exact Below.refl _ _ | apply below_drew | apply pw_below_drewN))).step hb3); have y0 : w3.cell? ⟨w.heap.size, 0, none⟩ = some (.int .i64 hold) := (blk_cell HF3.out.2.1 0).trans rfl; have y1 : w3.cell? ⟨w.heap.size, 1, none⟩ = some (.int .i64 win) := (blk_cell HF3.out.2.1 1).trans rfl; have HCB := Aside0.mk hcB; clear hcB hb3 hsz)
            | (go_at_call 22; refine (costV_any base T B _ l gs hold win _ _ HCK.out HP.out HF3.out.2.2.2 HCB.out b0 b1 b2 b3 (by omega)).mono ?_; rintro e w4 ⟨rfl, hb4⟩))
          all_goals
            go_wp2
            go_ret2
            exact ⟨below_step HF3.out.1 hb4, .inr (.inr ⟨HBE.out, HPO.out, _, rfl, .inl ⟨rfl, rfl⟩⟩)⟩
        · have hm2 : (most == 0) = false := by simpa using hm
          have HPO := Aside0.mk (show polOK 1 0 most = false by simp [polOK, hm])
          go_wp2_with (go_at_call 24; refine (outside_any _ _ _).mono ?_; rintro e w' ⟨rfl, rfl⟩)
          all_goals
            go_ret2
            exact ⟨HF.out.1, .inr (.inl ⟨HBE.out, HPO.out, rfl⟩)⟩
      · have ha2 : (age == 0) = false := by simpa using ha
        have HPO := Aside0.mk (show polOK 1 age most = false by simp [polOK, ha])
        go_wp2_with (go_at_call 24; refine (outside_any _ _ _).mono ?_; rintro e w' ⟨rfl, rfl⟩)
        all_goals
          go_ret2
          exact ⟨HF.out.1, .inr (.inl ⟨HBE.out, HPO.out, rfl⟩)⟩
    by_cases hk2 : kind = 2
    · subst hk2
      by_cases ha : age = 0
      · subst ha
        by_cases hm : most = 0
        · subst hm
          have HPO := Aside0.mk (show polOK 2 0 0 = true by decide)
          go_wp2_with (go_at_call 24; refine (outside_any _ _ _).mono ?_; rintro e w' ⟨rfl, rfl⟩)
          go_region_with (first
            | (go_at_call 23; refine (aged_any _ _).mono ?_; rintro e w3 ⟨B, rfl, hsz, hcB, hb3⟩; have HF3 := Aside0.mk ((HF.out.step (by repeat (first | exact Below.refl _ _ | apply below_drew | apply pw_below_drewN))).step hb3); have y0 : w3.cell? ⟨w.heap.size, 0, none⟩ = some (.int .i64 hold) := (blk_cell HF3.out.2.1 0).trans rfl; have y1 : w3.cell? ⟨w.heap.size, 1, none⟩ = some (.int .i64 win) := (blk_cell HF3.out.2.1 1).trans rfl; have HCB := Aside0.mk hcB; clear hcB hb3 hsz)
            | (go_at_call 22; refine (costV_any base T B _ l gs hold win _ _ HCK.out HP.out HF3.out.2.2.2 HCB.out b0 b1 b2 b3 (by omega)).mono ?_; rintro e w4 ⟨rfl, hb4⟩))
          all_goals
            go_wp2
            go_ret2
            exact ⟨below_step HF3.out.1 hb4, .inr (.inr ⟨HBE.out, HPO.out, _, rfl, .inr (.inl ⟨rfl, rfl⟩)⟩)⟩
        · have hm2 : (most == 0) = false := by simpa using hm
          have HPO := Aside0.mk (show polOK 2 0 most = false by simp [polOK, hm])
          go_wp2_with (go_at_call 24; refine (outside_any _ _ _).mono ?_; rintro e w' ⟨rfl, rfl⟩)
          all_goals
            go_ret2
            exact ⟨HF.out.1, .inr (.inl ⟨HBE.out, HPO.out, rfl⟩)⟩
      · have ha2 : (age == 0) = false := by simpa using ha
        have HPO := Aside0.mk (show polOK 2 age most = false by simp [polOK, ha])
        go_wp2_with (go_at_call 24; refine (outside_any _ _ _).mono ?_; rintro e w' ⟨rfl, rfl⟩)
        all_goals
          go_ret2
          exact ⟨HF.out.1, .inr (.inl ⟨HBE.out, HPO.out, rfl⟩)⟩
    by_cases hk3 : kind = 3
    · subst hk3
      cases ha : outB age 1000000000 with
      | false =>
        have a0 : 0 ≤ age := by simp [outB] at ha; omega
        by_cases hm : most = 0
        · subst hm
          have HPO := Aside0.mk (show polOK 3 age 0 = true by simp [polOK, ha])
          go_wp2_with (go_at_call 24; refine (outside_any _ _ _).mono ?_; rintro e w' ⟨rfl, rfl⟩)
          go_region_with (first
            | (go_at_call 23; refine (aged_any _ _).mono ?_; rintro e w3 ⟨B, rfl, hsz, hcB, hb3⟩; have HF3 := Aside0.mk ((HF.out.step (by repeat (first | exact Below.refl _ _ | apply below_drew | apply pw_below_drewN))).step hb3); have y0 : w3.cell? ⟨w.heap.size, 0, none⟩ = some (.int .i64 hold) := (blk_cell HF3.out.2.1 0).trans rfl; have y1 : w3.cell? ⟨w.heap.size, 1, none⟩ = some (.int .i64 win) := (blk_cell HF3.out.2.1 1).trans rfl; have HCB := Aside0.mk hcB; clear hcB hb3 hsz)
            | (go_at_call 22; refine (costV_any base T B _ l gs hold win _ _ HCK.out HP.out HF3.out.2.2.2 HCB.out b0 b1 b2 b3 (by omega)).mono ?_; rintro e w4 ⟨rfl, hb4⟩))
          all_goals
            go_wp2
            go_ret2
            exact ⟨below_step HF3.out.1 hb4, .inr (.inr ⟨HBE.out, HPO.out, _, rfl, .inr (.inr (.inl ⟨rfl, rfl⟩))⟩)⟩
        · have hm2 : (most == 0) = false := by simpa using hm
          have HPO := Aside0.mk (show polOK 3 age most = false by simp [polOK, hm])
          go_wp2_with (go_at_call 24; refine (outside_any _ _ _).mono ?_; rintro e w' ⟨rfl, rfl⟩)
          all_goals
            go_ret2
            exact ⟨HF.out.1, .inr (.inl ⟨HBE.out, HPO.out, rfl⟩)⟩
      | true =>
        have HPO := Aside0.mk (show polOK 3 age most = false by simp [polOK, ha])
        go_wp2_with (go_at_call 24; refine (outside_any _ _ _).mono ?_; rintro e w' ⟨rfl, rfl⟩)
        all_goals
          go_ret2
          exact ⟨HF.out.1, .inr (.inl ⟨HBE.out, HPO.out, rfl⟩)⟩
    by_cases hk4 : kind = 4
    · subst hk4
      by_cases ha : age = 0
      · subst ha
        cases hm : outB most 1024 with
        | false =>
          have HPO := Aside0.mk (show polOK 4 0 most = true by simp [polOK, hm])
          have m0 : 0 ≤ most := by simp [outB] at hm; omega
          have hgl := chk_zero HCK.out
          have hmw : ∀ W, F9 T base (.slice A l.length c) gs l hold win 4 0 most w W → _ := fun W hW => most_any T base A c l gs (lastOf l) (cntOf l) (endOf l) hold win most W hW.2.2.2 (Kd.C_below HCC.out hW.1) hgl.1 m0
          have HMW := Aside0.mk hmw
          clear hgl hmw
          go_wp2_with (first
            | (go_at_call 24; refine (outside_any _ _ _).mono ?_; rintro e w' ⟨rfl, rfl⟩)
            | (go_at_call 25; refine (HMW.out _ HF.out).mono ?_; rintro e w4 ⟨hb4, ss, hss, hso, rfl⟩; have HSS := Aside0.mk hss; have HSO := Aside0.mk hso; clear hss hso))
          all_goals
            go_ret2
            exact ⟨below_step HF.out.1 hb4, .inr (.inr ⟨HBE.out, HPO.out, _, rfl, .inr (.inr (.inr ⟨rfl, ss, HSS.out, HSO.out, rfl⟩))⟩)⟩
        | true =>
          have HPO := Aside0.mk (show polOK 4 0 most = false by simp [polOK, hm])
          go_wp2_with (go_at_call 24; refine (outside_any _ _ _).mono ?_; rintro e w' ⟨rfl, rfl⟩)
          all_goals
            go_ret2
            exact ⟨HF.out.1, .inr (.inl ⟨HBE.out, HPO.out, rfl⟩)⟩
      · have ha2 : (age == 0) = false := by simpa using ha
        have HPO := Aside0.mk (show polOK 4 age most = false by simp [polOK, ha])
        go_wp2_with (go_at_call 24; refine (outside_any _ _ _).mono ?_; rintro e w' ⟨rfl, rfl⟩)
        all_goals
          go_ret2
          exact ⟨HF.out.1, .inr (.inl ⟨HBE.out, HPO.out, rfl⟩)⟩
    · have e1 : (kind == 1) = false := by simpa using hk1
      have e2 : (kind == 2) = false := by simpa using hk2
      have e3 : (kind == 3) = false := by simpa using hk3
      have e4 : (kind == 4) = false := by simpa using hk4
      have HPO := Aside0.mk (show polOK kind age most = false by simp [polOK, hk1, hk2, hk3, hk4])
      go_wp2_with (go_at_call 24; refine (outside_any _ _ _).mono ?_; rintro e w' ⟨rfl, rfl⟩)
      all_goals
        go_ret2
        exact ⟨HF.out.1, .inr (.inl ⟨HBE.out, HPO.out, rfl⟩)⟩
  · have HOP := Aside0.mk (both_bad A c l hold win _ hCx hc hbe)
    have HBE := Aside0.mk hbe
    have HBX := Aside0.mk hbx
    have hn : (bothE l hold win == 0) = false := by simpa using hbe
    clear hCx hC hbx
    unfold CostPo
    generalize bothE l hold win = be at *
    go_enter Try.func9, Try.ntmps9
    go_wp2_with (go_at_call 21; refine HOP.out.mono ?_; rintro e w1 ⟨rfl, hb⟩)
    go_ret2
    exact ⟨below_step HBX.out hb, .inl ⟨HBE.out, rfl⟩⟩
end Go.Proofs.Ytdkfmbammdmohaa.PPolicyCosts

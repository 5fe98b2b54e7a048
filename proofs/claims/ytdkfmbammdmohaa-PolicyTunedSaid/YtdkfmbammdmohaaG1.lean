/- policy.both, policy.Gaps. -/
import Derived.Test.YtdkfmbammdmohaaG0
namespace Go.Proofs.Ytdkfmbammdmohaa.PPolicyCosts
open Go.RowKit Go.Proofs.YtdkfmbammdmohaaW.PrintWords Go.Proofs.YtdkfmbammdmohaaW.PrintLast Go.Proofs.YtdkfmbammdmohaaW.PrintMore
open Go.Proofs.YtdkfmbammdmohaaM Go.Proofs.YtdkfmbammdmohaaS
attribute [local go_sem] max2_int min2_int max_two min_two max_three min_three max_four min_four
set_option linter.unusedVariables false
set_option linter.unusedSimpArgs false

/-- What both comes to. -/
def BothPost (lv : Value) (l : List S73) (hold win : Int) (w : World) (e : Ending) (w' : World) : Prop :=
  Below w.heap.size w w' ∧ ((bothE l hold win ≠ 0 ∧ e = .returned (.tuple #[.pointer none, .int .i64 (bothE l hold win)])) ∨
    (bothE l hold win = 0 ∧ ∃ base T gs, w.heap.size ≤ base ∧ e = .returned (.tuple #[.pointer (some ⟨T, 0, none⟩), .int .i64 0]) ∧ gs.Perm (gapsOf l) ∧ gs.Pairwise (fun x y => decide (cmpGap y x < 0) = false) ∧ TraceAt w' base T lv gs (lastOf l) (cntOf l) (endOf l)))

theorem open_bad (A : Option Addr) (c : Nat) (l : List S73) (w : World) (hC : Kd.C k73 w A l.length l) (hc : l.length ≤ c) (h : chk l ≠ 0) :
    Calls Try.prog 42 #[.slice A l.length c] w fun e w' => e = .returned (.tuple #[.pointer none, .int .i64 (chk l)]) ∧ Below w.heap.size w w' :=
  (open_any A c l w hC hc).mono fun e w' h2 => by
    obtain ⟨hb, hr | hr⟩ := h2
    · exact ⟨hr.2, hb⟩
    · exact absurd hr.1 h
theorem open_ok (A : Option Addr) (c : Nat) (l : List S73) (w : World) (hC : Kd.C k73 w A l.length l) (hc : l.length ≤ c) (h : chk l = 0) :
    Calls Try.prog 42 #[.slice A l.length c] w fun e w' => ∃ T gs, e = .returned (.tuple #[.pointer (some ⟨T, 0, none⟩), .int .i64 0]) ∧ gs.Perm (gapsOf l) ∧ gs.Pairwise (fun x y => decide (cmpGap y x < 0) = false) ∧ TraceAt w' w.heap.size T (.slice A l.length c) gs (lastOf l) (cntOf l) (endOf l) ∧ Below w.heap.size w w' :=
  (open_any A c l w hC hc).mono fun e w' h2 => by
    obtain ⟨hb, hr | ⟨_, T, gs, h1, h2, h3, h4⟩⟩ := h2
    · exact absurd h hr.1
    · exact ⟨T, gs, h1, h2, h3, h4, hb⟩

set_option maxRecDepth 100000 in
set_option maxHeartbeats 4000000 in
theorem both_any (A : Option Addr) (c : Nat) (l : List S73) (hold win : Int) (w : World) (hC : Kd.C k73 w A l.length l) (hc : l.length ≤ c) :
    Calls Try.prog 21 #[.slice A l.length c, .agg #[.int .i64 hold, .int .i64 win]] w (BothPost (.slice A l.length c) l hold win w) := by
  by_cases hck : chk l = 0
  · have HOP := Aside0.mk (open_ok A c l (w.alloc (.cells #[.int .i64 hold, .int .i64 win] 24)) (Kd.C_below hC (below_alloc (Below.refl _ _) _)) hc hck)
    have HBE := Aside0.mk (show bothE l hold win = if outB hold 1000 || outB win 1000000000 then 7 else 0 by unfold bothE; rw [if_neg (by simpa using hck)])
    clear hC hck
    cases ho1 : outB hold 1000 <;> cases ho2 : outB win 1000000000
    all_goals
      go_enter Try.func21, Try.ntmps21
      go_wp2_with (first
        | (go_at_call 42; refine HOP.out.mono ?_; rintro e w1 ⟨T, gs, rfl, hp, hs, hT, hb⟩; have HP := Aside0.mk hp; have HS := Aside0.mk hs; have HT := Aside0.mk hT; have HB := Aside0.mk (below_step (below_alloc (Below.refl _ _) _) hb); have x0 : w1.cell? ⟨w.heap.size, 0, none⟩ = some (.int .i64 hold) := (blk_cell (blk_below (blk_new w _) hb) 0).trans rfl; have x1 : w1.cell? ⟨w.heap.size, 1, none⟩ = some (.int .i64 win) := (blk_cell (blk_below (blk_new w _) hb) 1).trans rfl; clear hp hs hT hb)
        | (go_at_call 24; refine (outside_any _ _ _).mono ?_; rintro e w' ⟨rfl, rfl⟩))
      go_ret2
      first
        | exact ⟨HB.out, .inr ⟨by rw [HBE.out]; simp [ho1, ho2], w.heap.size + 1, T, gs, by omega, rfl, HP.out, HS.out, by have := HT.out; rw [World.size_alloc] at this; exact this⟩⟩
        | exact ⟨HB.out, .inl ⟨by rw [HBE.out]; simp [ho1, ho2], by rw [HBE.out]; simp only [ho1, ho2]; rfl⟩⟩
  · have HOP := Aside0.mk (open_bad A c l (w.alloc (.cells #[.int .i64 hold, .int .i64 win] 24)) (Kd.C_below hC (below_alloc (Below.refl _ _) _)) hc hck)
    have HBE := Aside0.mk (show bothE l hold win = chk l by unfold bothE; rw [if_pos hck])
    have hn : (chk l == 0) = false := by simpa using hck
    clear hC
    generalize chk l = ck at *
    go_enter Try.func21, Try.ntmps21
    go_wp2_with (go_at_call 42; refine HOP.out.mono ?_; rintro e w1 ⟨rfl, hb⟩)
    go_ret2
    exact ⟨below_step (below_alloc (Below.refl _ _) _) hb, .inl ⟨by rw [HBE.out]; exact hck, by rw [HBE.out]; rfl⟩⟩

/-- What Gaps comes to. -/
def GapsPost (l : List S73) (w : World) (e : Ending) (w' : World) : Prop :=
  Below w.heap.size w w' ∧ ((chk l ≠ 0 ∧ e = .returned (.tuple #[.slice none 0 0, .int .i64 (chk l)])) ∨
    (chk l = 0 ∧ ∃ A c gs, e = .returned (.tuple #[.slice A gs.length c, .int .i64 0]) ∧ gs.length ≤ c ∧ gs.Perm (gapsOf l) ∧ gs.Pairwise (fun x y => decide (cmpGap y x < 0) = false) ∧ Kd.C k52 w' A gs.length gs))
theorem gapsF_any (A : Option Addr) (c : Nat) (l : List S73) (w : World) (hC : Kd.C k73 w A l.length l) (hc : l.length ≤ c) :
    Calls Try.prog 17 #[.slice A l.length c] w (GapsPost l w) := by
  by_cases hck : chk l = 0
  · have HOP := Aside0.mk (open_ok A c l w hC hc hck)
    have HCK := Aside0.mk hck
    clear hC hck
    go_enter Try.func17, Try.ntmps17
    go_wp2_with (go_at_call 42; refine HOP.out.mono ?_; rintro e w1 ⟨T, gs, rfl, hp, hs, ⟨gv, M, hb1, hT, hG, hMb, hM⟩, hb⟩; have x1 := (blk_cell hT 1).trans (rfl : _ = some gv); obtain ⟨Ag, cg, rfl, hcg, hCg⟩ := own_C52 hG; have HP := Aside0.mk hp; have HS := Aside0.mk hs; have HB := Aside0.mk hb; have HG := Aside0.mk hCg; clear hp hs hT hb hM hG hCg)
    go_ret2
    exact ⟨HB.out, .inr ⟨HCK.out, Ag, cg, gs, rfl, hcg, HP.out, HS.out, HG.out⟩⟩
  · have HOP := Aside0.mk (open_bad A c l w hC hc hck)
    have HCK := Aside0.mk hck
    have hn : (chk l == 0) = false := by simpa using hck
    clear hC
    unfold GapsPost
    generalize chk l = ck at *
    go_enter Try.func17, Try.ntmps17
    go_wp2_with (go_at_call 42; refine HOP.out.mono ?_; rintro e w1 ⟨rfl, hb⟩)
    go_ret2
    exact ⟨hb, .inl ⟨HCK.out, rfl⟩⟩
end Go.Proofs.Ytdkfmbammdmohaa.PPolicyCosts

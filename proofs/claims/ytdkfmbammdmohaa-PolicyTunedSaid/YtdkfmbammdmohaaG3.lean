/- policy.Least. -/
import Derived.Test.YtdkfmbammdmohaaG2
import Derived.Test.YtdkfmbammdmohaaX2
namespace Go.Proofs.Ytdkfmbammdmohaa.PPolicyCosts
open Go.RowKit Go.Proofs.YtdkfmbammdmohaaW.PrintWords Go.Proofs.YtdkfmbammdmohaaW.PrintLast Go.Proofs.YtdkfmbammdmohaaW.PrintMore
open Go.Proofs.YtdkfmbammdmohaaM Go.Proofs.YtdkfmbammdmohaaS
attribute [local go_sem] max2_int min2_int max_two min_two max_three min_three max_four min_four
set_option linter.unusedVariables false
set_option linter.unusedSimpArgs false

def eI (x : Int) : List Value := [.int .i64 x]
theorem own_CI {w : World} {base : Nat} {ty : TypeId} {v : Value} {ks : List Int} (h : w.ownsRow base ty 1 v ks.length (ks.flatMap eI)) : ∃ A c, v = .slice A ks.length c ∧ ks.length ≤ c ∧ Kd.C (Kd.int .i64) w A ks.length ks := by
  have hr : Reps ((Kd.int .i64).K w) 1 ks (ks.flatMap eI) := by
    have := reps_flatF (R := (Kd.int .i64).K w) (k := 1) eI (fun x => rfl) (fun _ => rfl) ks [] (Reps.none _ _)
    simpa using this
  obtain ⟨A, c, rfl, hrow⟩ := own_reads_row h hr rfl
  exact ⟨A, c, rfl, own_le h, hrow⟩

/-- what keeping a gap saves -/
def savW (hold win : Int) (g : S52) : Int := wrap64 (win - wrap64 (wrap64 (g.f2 - g.f1) * hold))
/-- What Least has come to behind k gaps. -/
def leastR (hold win n0 : Int) (gs : List S52) : Nat → Int × List Int
  | 0 => (n0, [])
  | k + 1 => if 0 ≤ savW hold win (rd_T52 gs (k : Int)) then (wrap64 ((leastR hold win n0 gs k).1 - savW hold win (rd_T52 gs (k : Int))), (leastR hold win n0 gs k).2 ++ [(k : Int)]) else leastR hold win n0 gs k
theorem leastR_succ (hold win n0 : Int) (gs : List S52) (k : Nat) : leastR hold win n0 gs (k + 1) = if 0 ≤ savW hold win (rd_T52 gs (k : Int)) then (wrap64 ((leastR hold win n0 gs k).1 - savW hold win (rd_T52 gs (k : Int))), (leastR hold win n0 gs k).2 ++ [(k : Int)]) else leastR hold win n0 gs k := rfl
theorem leastR_len (hold win n0 : Int) (gs : List S52) : ∀ k, (leastR hold win n0 gs k).2.length ≤ k
  | 0 => by simp [leastR]
  | k + 1 => by
    have := leastR_len hold win n0 gs k
    rw [leastR]
    split
    · simp; omega
    · omega
def LeastPost (l : List S73) (hold win : Int) (w : World) (e : Ending) (w' : World) : Prop :=
  Below w.heap.size w w' ∧ ((bothE l hold win ≠ 0 ∧ e = .returned (.tuple #[.slice none 0 0, .int .i64 0, .int .i64 (bothE l hold win)])) ∨
    (bothE l hold win = 0 ∧ ∃ A c gs, gs.Perm (gapsOf l) ∧ gs.Pairwise (fun x y => decide (cmpGap y x < 0) = false) ∧
      e = .returned (.tuple #[.slice A (leastR hold win (wrap64 ((l.length : Int) * win)) gs gs.length).2.length c, .int .i64 (leastR hold win (wrap64 ((l.length : Int) * win)) gs gs.length).1, .int .i64 0]) ∧
      (leastR hold win (wrap64 ((l.length : Int) * win)) gs gs.length).2.length ≤ c ∧ Kd.C (Kd.int .i64) w' A (leastR hold win (wrap64 ((l.length : Int) * win)) gs gs.length).2.length (leastR hold win (wrap64 ((l.length : Int) * win)) gs gs.length).2))

set_option maxRecDepth 100000 in
set_option maxHeartbeats 1000000 in
theorem dropped_any (T n c : Nat) (A : Option Addr) (hold win : Int) (w : World) (t0 : w.cell? ⟨T, 0, none⟩ = some (.slice A n c)) (hn : n ≤ 9223372036854775807) (hT : T < w.heap.size) :
    Calls Try.prog 30 #[.pointer (some ⟨T, 0, none⟩), .agg #[.int .i64 hold, .int .i64 win]] w fun e w' => e = .returned (.int .i64 (wrap64 ((n : Int) * win))) ∧ Below w.heap.size w w' := by
  go_enter Try.func30, Try.ntmps30
  go_wp2
  go_quiet (fail)
  go_wp2
  go_ret
  exact ⟨by simp only [IntWalk.i64_left]; rfl, by repeat (first | exact Below.refl _ _ | apply below_drew | apply pw_below_drewN | apply below_alloc)⟩

def F11 (T base : Nat) (lv : Value) (gs : List S52) (l : List S73) (hold win : Int) (w W : World) : Prop :=
  Below w.heap.size w W ∧ W.heap[w.heap.size]? = some (.cells #[.int .i64 hold, .int .i64 win] 24 (0, 0)) ∧ TraceAt W base T lv gs (lastOf l) (cntOf l) (endOf l)
theorem F11.step {T base : Nat} {lv : Value} {gs : List S52} {l : List S73} {hold win : Int} {w W W' : World} (h : F11 T base lv gs l hold win w W) (hb : Below W.heap.size W W') : F11 T base lv gs l hold win w W' :=
  ⟨below_step h.1 hb, blk_below h.2.1 hb, h.2.2.below hb⟩

theorem info3x : (Try.prog.info? 3).map (fun i => (i.zero, i.size, i.bytes)) = some (some (.int .i64 0), 1, 8) := by kernel_rfl

set_option maxRecDepth 100000 in
set_option maxHeartbeats 8000000 in
theorem leastF_any (A : Option Addr) (c : Nat) (l : List S73) (hold win : Int) (w : World) (hC : Kd.C k73 w A l.length l) (hc : l.length ≤ c) :
    Calls Try.prog 11 #[.slice A l.length c, .agg #[.int .i64 hold, .int .i64 win]] w (LeastPost l hold win w) := by
  have hCx := Kd.C_below hC (below_alloc (Below.refl w.heap.size w) (.cells #[.int .i64 hold, .int .i64 win] 24))
  have hbx : Below w.heap.size w (w.alloc (.cells #[.int .i64 hold, .int .i64 win] 24)) := below_alloc (Below.refl w.heap.size w) _
  by_cases hbe : bothE l hold win = 0
  · have HOP := Aside0.mk (both_ok A c l hold win _ hCx hc hbe)
    have HBE := Aside0.mk hbe
    obtain ⟨hck, b0, b1, b2, b3⟩ := bothE_zero hbe
    have hgl0 := gapsOf_len l
    have hl200 := (chk_zero hck).1
    have HBX := Aside0.mk hbx
    have HY := Aside0.mk (blk_new w (.cells #[.int .i64 hold, .int .i64 win] 24))
    clear hCx hC hbe hck hbx
    go_enter Try.func11, Try.ntmps11
    go_wp2_with (first
      | (go_at_call 21; refine HOP.out.mono ?_; rintro e w1 ⟨T, base, gs, rfl, hp, hs, hT, hb⟩
         have hF : F11 T base (.slice A l.length c) gs l hold win w w1 := ⟨below_step HBX.out hb, blk_below HY.out hb, hT⟩
         clear hT
         have HP := Aside0.mk hp
         have HS := Aside0.mk hs
         have hgl : gs.length ≤ 200 := by rw [hp.length_eq]; omega
         have HF := Aside0.mk hF
         obtain ⟨gv, M, hbT, hTT, hG, hMb, hM⟩ := hF.2.2
         have HTT := Aside0.mk hTT
         have t0 : w1.cell? ⟨T, 0, none⟩ = some (.slice A l.length c) := (blk_cell hTT 0).trans rfl
         have t1 : w1.cell? ⟨T, 1, none⟩ = some gv := (blk_cell hTT 1).trans rfl
         have y0 : w1.cell? ⟨w.heap.size, 0, none⟩ = some (.int .i64 hold) := (blk_cell hF.2.1 0).trans rfl
         have y1 : w1.cell? ⟨w.heap.size, 1, none⟩ = some (.int .i64 win) := (blk_cell hF.2.1 1).trans rfl
         have hTl : T < w1.heap.size := blk_lt hTT
         have hYl : w.heap.size < w1.heap.size := blk_lt hF.2.1
         obtain ⟨Ag, cg, rfl, hcg, hCg⟩ := own_C52 hG
         have HCG := Aside0.mk hCg
         clear hp hs hb hF hTT hG hM hCg)
      | (go_at_call 30; refine (dropped_any T l.length c A hold win _ t0 (by omega) hTl).mono ?_; rintro e w2 ⟨rfl, hb2⟩; have HF2 := Aside0.mk (HF.out.step hb2)
         have HCG2 := Aside0.mk (Kd.C_below HCG.out hb2)
         have t1 : w2.cell? ⟨T, 1, none⟩ = some (.slice Ag gs.length cg) := (blk_cell (blk_below HTT.out hb2) 1).trans rfl
         have hYl : w.heap.size < w2.heap.size := blk_lt HF2.out.2.1
         have HB2 := Aside0.mk hb2
         clear hb2 t0 y0 y1))
    have hCS := fun (a b x y z : Int) W => policy_saved.calls a b x y z _ W rfl
    have HCS := Aside0.mk hCS
    clear hCS
    go_loopw [4, 5, 28] (fun v4 v5 v28 wr => ∃ k : Nat, k ≤ gs.length ∧ v28 = .int .i64 k ∧ v5 = .int .i64 (leastR hold win (wrap64 ((l.length : Int) * win)) gs k).1 ∧ Aside0 (Below w2.heap.size w2 wr ∧ wr.ownsRow w2.heap.size 3 1 v4 (leastR hold win (wrap64 ((l.length : Int) * win)) gs k).2.length ((leastR hold win (wrap64 ((l.length : Int) * win)) gs k).2.flatMap eI))) (fun v4 v5 v28 wr => gs.length - (intOf v28).toNat)
    case atStart => exact ⟨0, Nat.zero_le _, rfl, rfl, ⟨Below.refl _ _, own_nil _ _ _ _⟩⟩
    case round =>
      obtain ⟨k, hk, rfl, rfl, HI⟩ := hrel
      have hlen := leastR_len hold win (wrap64 ((l.length : Int) * win)) gs k
      by_cases hlt : k < gs.length
      · obtain ⟨ad, rfl, hx0, hx1, hx2⟩ := at_T52 (Kd.C_below HCG2.out HI.out.1) (k : Int) (by omega) (by omega)
        simp only [Int.toNat_natCast] at hx0 hx1 hx2
        have HR := Aside0.mk (leastR_succ hold win (wrap64 ((l.length : Int) * win)) gs k)
        generalize leastR hold win (wrap64 ((l.length : Int) * win)) gs k = st at *
        obtain ⟨n, ks⟩ := st
        simp only at hlen
        generalize rd_T52 gs (k : Int) = g at *
        have HO := Aside0.mk (show wr.ownsRow w2.heap.size 3 1 _ ks.length (ks.flatMap eI) from HI.out.2)
        have HBr := Aside0.mk HI.out.1
        have hYr : w.heap.size < wr.heap.size := by have := HBr.out.size; omega
        have hz2 : w2.heap.size ≤ wr.heap.size := HBr.out.size
        have y0 : wr.cell? ⟨w.heap.size, 0, none⟩ = some (.int .i64 hold) := (blk_cell (blk_below HF2.out.2.1 HBr.out) 0).trans rfl
        have y1 : wr.cell? ⟨w.heap.size, 1, none⟩ = some (.int .i64 win) := (blk_cell (blk_below HF2.out.2.1 HBr.out) 1).trans rfl
        clear HI
        have HSV := Aside0.mk (show savW hold win g = wrap64 (win - wrap64 (wrap64 (g.f2 - g.f1) * hold)) from rfl)
        by_cases hsv : 0 ≤ savW hold win g
        · rw [if_pos hsv] at HR
          rw [HSV.out] at hsv
          go_wp2_with (first
            | (go_at_call 31; refine (HCS.out _ _ _ _ _ _).mono ?_; rintro e w3 ⟨rfl, hb3⟩
               have HB3 := Aside0.mk (below_step (below_alloc (Below.refl _ _) _) hb3)
               have hz3 : w2.heap.size ≤ w3.heap.size := Nat.le_trans hz2 HB3.out.size
               clear hb3)
            | (at_builtin; go_loud (refine wp_appM (w0 := w2) (W := w3) w2.heap.size 1 (by rfl) _ _ 33 3 _ 1 8 (by rfl) Try.underlying33 info3x (by rfl) (by omega) (by omega) _ ks.length (ks.flatMap eI) [.int .i64 (k : Int)] (by rfl) (by rfl) (by rfl) (by intro y hy; simp at hy; subst hy; rfl) (pw_own_below HO.out HB3.out) (below_step HBr.out HB3.out) hz3 (by omega) ?_); intro v1 w4 hown hbel hgr hat))
          go_roundw
          case rel =>
            refine ⟨k + 1, by omega, by go_num, ?_, ⟨hbel, ?_⟩⟩
            · rw [HR.out, HSV.out]
            · rw [HR.out]
              simp only [List.length_append, List.flatMap_append]
              exact hown
          case measure => simp [intOf]; omega
        · rw [if_neg hsv] at HR
          rw [HSV.out] at hsv
          go_wp2_with (go_at_call 31; refine (HCS.out _ _ _ _ _ _).mono ?_; rintro e w3 ⟨rfl, hb3⟩)
          have hb5 := below_step (below_alloc (Below.refl wr.heap.size wr) _) hb3
          go_roundw
          case rel =>
            refine ⟨k + 1, by omega, by go_num, ?_, ⟨below_step HBr.out hb5, ?_⟩⟩
            · rw [HR.out]
            · rw [HR.out]
              exact pw_own_below HO.out hb5
          case measure => simp [intOf]; omega
      · obtain rfl : k = gs.length := by omega
        go_wp2
        obtain ⟨Ao, co, hvo, hco, hCo⟩ := own_CI HI.out.2
        subst hvo
        go_ret3
        exact ⟨below_step HF2.out.1 HI.out.1, .inr ⟨HBE.out, Ao, co, gs, HP.out, HS.out, rfl, hco, hCo⟩⟩
  · have HOP := Aside0.mk (both_bad A c l hold win _ hCx hc hbe)
    have HBE := Aside0.mk hbe
    have HBX := Aside0.mk hbx
    have hn : (bothE l hold win == 0) = false := by simpa using hbe
    clear hCx hC hbx
    unfold LeastPost
    generalize bothE l hold win = be at *
    go_enter Try.func11, Try.ntmps11
    go_wp2_with (go_at_call 21; refine HOP.out.mono ?_; rintro e w1 ⟨rfl, hb⟩)
    go_ret3
    exact ⟨below_step HBX.out hb, .inl ⟨HBE.out, rfl⟩⟩
end Go.Proofs.Ytdkfmbammdmohaa.PPolicyCosts

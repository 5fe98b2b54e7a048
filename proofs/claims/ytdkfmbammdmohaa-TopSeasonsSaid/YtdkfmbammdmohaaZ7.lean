/- policy.Least. -/
import Derived.Test.YtdkfmbammdmohaaZ6
import Derived.Test.YtdkfmbammdmohaaZ1
import Derived.Test.YtdkfmbammdmohaaZ2
namespace Go.Proofs.Ytdkfmbammdmohaa.PPolicyCosts
open Go.RowKit Go.Proofs.YtdkfmbammdmohaaW.PrintWords Go.Proofs.YtdkfmbammdmohaaW.PrintLast Go.Proofs.YtdkfmbammdmohaaW.PrintMore
open Go.Proofs.YtdkfmbammdmohaaM Go.Proofs.YtdkfmbammdmohaaS
attribute [local go_sem] max2_int min2_int max_two min_two max_three min_three max_four min_four
set_option linter.unusedVariables false
set_option linter.unusedSimpArgs false

def eI (x : Int) : List Value := [.int .i64 x]
theorem own_CI {w : World} {base : Nat} {ty : TypeId} {v : Value} {ks : List Int} (h : w.ownsRow base ty 1 v ks.length (ks.flatMap eI)) : ∃ A c, v = .slice A ks.length c ∧ ks.length ≤ c ∧ Kd.C (Kd.int .i64) w A ks.length ks := by
  have hr : Reps ((Kd.int .i64).K w) 1 ks (ks.flatMap eI) := by
    have := reps_flatF (R := (Kd.int .i64).K w) (k := 1) eI (fun x => rfl) (fun _ => rfl) ks [] (Reps.none _ _)
    simpa using this
  obtain ⟨A, c, rfl, hrow⟩ := own_reads_row h hr rfl
  exact ⟨A, c, rfl, own_le h, hrow⟩

/-- what keeping a gap saves -/
def savW (hold win : Int) (g : S52) : Int := wrap64 (win - wrap64 (wrap64 (g.f2 - g.f1) * hold))
/-- What Least has come to behind k gaps. -/
def leastR (hold win n0 : Int) (gs : List S52) : Nat → Int × List Int
  | 0 => (n0, [])
  | k + 1 => if 0 ≤ savW hold win (rd_T52 gs (k : Int)) then (wrap64 ((leastR hold win n0 gs k).1 - savW hold win (rd_T52 gs (k : Int))), (leastR hold win n0 gs k).2 ++ [(k : Int)]) else leastR hold win n0 gs k
theorem leastR_succ (hold win n0 : Int) (gs : List S52) (k : Nat) : leastR hold win n0 gs (k + 1) = if 0 ≤ savW hold win (rd_T52 gs (k : Int)) then (wrap64 ((leastR hold win n0 gs k).1 - savW hold win (rd_T52 gs (k : Int))), (leastR hold win n0 gs k).2 ++ [(k : Int)]) else leastR hold win n0 gs k := rfl
theorem leastR_len (hold win n0 : Int) (gs : List S52) : ∀ k, (leastR hold win n0 gs k).2.length ≤ k
  | 0 => by simp [leastR]
  | k + 1 => by
    have := leastR_len hold win n0 gs k
    rw [leastR]
    split
    · simp; omega
    · omega
def LeastPost (l : List S73) (hold win : Int) (w : World) (e : Ending) (w' : World) : Prop :=
  Below w.heap.size w w' ∧ ((bothE l hold win ≠ 0 ∧ e = .returned (.tuple #[.slice none 0 0, .int .i64 0, .int .i64 (bothE l hold win)])) ∨
    (bothE l hold win = 0 ∧ ∃ A c gs, gs.Perm (gapsOf l) ∧ gs.Pairwise (fun x y => decide (cmpGap y x < 0) = false) ∧
      e = .returned (.tuple #[.slice A (leastR hold win (wrap64 ((l.length : Int) * win)) gs gs.length).2.length c, .int .i64 (leastR hold win (wrap64 ((l.length : Int) * win)) gs gs.length).1, .int .i64 0]) ∧
      (leastR hold win (wrap64 ((l.length : Int) * win)) gs gs.length).2.length ≤ c ∧ Kd.C (Kd.int .i64) w' A (leastR hold win (wrap64 ((l.length : Int) * win)) gs gs.length).2.length (leastR hold win (wrap64 ((l.length : Int) * win)) gs gs.length).2))

set_option maxRecDepth 100000 in
set_option maxHeartbeats 1000000 in
theorem dropped_any (T n c : Nat) (A : Option Addr) (hold win : Int) (w : World) (t0 : w.cell? ⟨T, 0, none⟩ = some (.slice A n c)) (hn : n ≤ 9223372036854775807) (hT : T < w.heap.size) :
    Calls Try.prog 30 #[.pointer (some ⟨T, 0, none⟩), .agg #[.int .i64 hold, .int .i64 win]] w fun e w' => e = .returned (.int .i64 (wrap64 ((n : Int) * win))) ∧ Below w.heap.size w w' := by
  go_enter Try.func30, Try.ntmps30
  go_wp2
  go_quiet (fail)
  go_wp2
  go_ret
  exact ⟨by simp only [IntWalk.i64_left]; rfl, by repeat (first | exact Below.refl _ _ | apply below_drew | apply pw_below_drewN | apply below_alloc)⟩

def F11 (T base : Nat) (lv : Value) (gs : List S52) (l : List S73) (hold win : Int) (w W : World) : Prop :=
  Below w.heap.size w W ∧ W.heap[w.heap.size]? = some (.cells #[.int .i64 hold, .int .i64 win] 24 (0, 0)) ∧ TraceAt W base T lv gs (lastOf l) (cntOf l) (endOf l)
theorem F11.step {T base : Nat} {lv : Value} {gs : List S52} {l : List S73} {hold win : Int} {w W W' : World} (h : F11 T base lv gs l hold win w W) (hb : Below W.heap.size W W') : F11 T base lv gs l hold win w W' :=
  ⟨below_step h.1 hb, blk_below h.2.1 hb, h.2.2.below hb⟩

theorem info3x : (Try.prog.info? 3).map (fun i => (i.zero, i.size, i.bytes)) = some (some (.int .i64 0), 1, 8) := by kernel_rfl

set_option maxRecDepth 100000 in
set_option maxHeartbeats 8000000 in
theorem leastF_any (A : Option Addr) (c : Nat) (l : List S73) (hold win : Int) (w : World) (hC : Kd.C k73 w A l.length l) (hc : l.length ≤ c) :
    Calls Try.prog 11 #[.slice A l.length c, .agg #[.int .i64 hold, .int .i64 win]] w (LeastPost l hold win w) := by
  have hCx := Kd.C_below hC (below_alloc (Below.refl w.heap.size w) (.cells #[.int .i64 hold, .int .i64 win] 24))
  have hbx : Below w.heap.size w (w.alloc (.cells #[.int .i64 hold, .int .i64 win] 24)) := below_alloc (Below.refl w.heap.size w) _
  by_cases hbe : bothE l hold win = 0
  · have HOP := Aside0.mk (both_ok A c l hold win _ hCx hc hbe)
    have HBE := Aside0.mk hbe
    obtain ⟨hck, b0, b1, b2, b3⟩ := bothE_zero hbe
    have hgl0 := gapsOf_len l
    have hl200 := (chk_zero hck).1
    have HBX := Aside0.mk hbx
    have HY := Aside0.mk (blk_new w (.cells #[.int .i64 hold, .int .i64 win] 24))
    clear hCx hC hbe hck hbx
    go_enter Try.func11, Try.ntmps11
    go_wp2_with (first
      | (go_at_call 21; refine HOP.out.mono ?_; rintro e w1 ⟨T, base, gs, rfl, hp, hs, hT, hb⟩
         have hF : F11 T base (.slice A l.length c) gs l hold win w w1 := ⟨below_step HBX.out hb, blk_below HY.out hb, hT⟩
         clear hT
         have HP := Aside0.mk hp
         have HS := Aside0.mk hs
         have hgl : gs.length ≤ 200 := by rw [hp.length_eq]; omega
         have HF := Aside0.mk hF
         obtain ⟨gv, M, hbT, hTT, hG, hMb, hM⟩ := hF.2.2
         have HTT := Aside0.mk hTT
         have t0 : w1.cell? ⟨T, 0, none⟩ = some (.slice A l.length c) := (blk_cell hTT 0).trans rfl
         have t1 : w1.cell? ⟨T, 1, none⟩ = some gv := (blk_cell hTT 1).trans rfl
         have y0 : w1.cell? ⟨w.heap.size, 0, none⟩ = some (.int .i64 hold) := (blk_cell hF.2.1 0).trans rfl
         have y1 : w1.cell? ⟨w.heap.size, 1, none⟩ = some (.int .i64 win) := (blk_cell hF.2.1 1).trans rfl
         have hTl : T < w1.heap.size := blk_lt hTT
         have hYl : w.heap.size < w1.heap.size := blk_lt hF.2.1
         obtain ⟨Ag, cg, rfl, hcg, hCg⟩ := own_C52 hG
         have HCG := Aside0.mk hCg
         clear hp hs hb hF hTT hG hM hCg)
      | (go_at_call 30; refine (dropped_any T l.length c A hold win _ t0 (by omega) hTl).mono ?_; rintro e w2 ⟨rfl, hb2⟩; have HF2 := Aside0.mk (HF.out.step hb2)
         have HCG2 := Aside0.mk (Kd.C_below HCG.out hb2)
         have t1 : w2.cell? ⟨T, 1, none⟩ = some (.slice Ag gs.length cg) := (blk_cell (blk_below HTT.out hb2) 1).trans rfl
         have hYl : w.heap.size < w2.heap.size := blk_lt HF2.out.2.1
         have HB2 := Aside0.mk hb2
         clear hb2 t0 y0 y1))
    have hCS := fun (a b x y z : Int) W => policy_saved.calls a b x y z _ W rfl
    have HCS := Aside0.mk hCS
    clear hCS
    go_loopw [4, 5, 28] (fun v4 v5 v28 wr => ∃ k : Nat, k ≤ gs.length ∧ v28 = .int .i64 k ∧ v5 = .int .i64 (leastR hold win (wrap64 ((l.length : Int) * win)) gs k).1 ∧ Aside0 (Below w2.heap.size w2 wr ∧ wr.ownsRow w2.heap.size 3 1 v4 (leastR hold win (wrap64 ((l.length : Int) * win)) gs k).2.length ((leastR hold win (wrap64 ((l.length : Int) * win)) gs k).2.flatMap eI))) (fun v4 v5 v28 wr => gs.length - (intOf v28).toNat)
    case atStart => exact ⟨0, Nat.zero_le _, rfl, rfl, ⟨Below.refl _ _, own_nil _ _ _ _⟩⟩
    case round =>
      obtain ⟨k, hk, rfl, rfl, HI⟩ := hrel
      have hlen := leastR_len hold win (wrap64 ((l.length : Int) * win)) gs k
      by_cases hlt : k < gs.length
      · obtain ⟨ad, rfl, hx0, hx1, hx2⟩ := at_T52 (Kd.C_below HCG2.out HI.out.1) (k : Int) (by omega) (by omega)
        simp only [Int.toNat_natCast] at hx0 hx1 hx2
        have HR := Aside0.mk (leastR_succ hold win (wrap64 ((l.length : Int) * win)) gs k)
        generalize leastR hold win (wrap64 ((l.length : Int) * win)) gs k = st at *
        obtain ⟨n, ks⟩ := st
        simp only at hlen
        generalize rd_T52 gs (k : Int) = g at *
        have HO := Aside0.mk (show wr.ownsRow w2.heap.size 3 1 _ ks.length (ks.flatMap eI) from HI.out.2)
        have HBr := Aside0.mk HI.out.1
        have hYr : w.heap.size < wr.heap.size := by have := HBr.out.size; omega
        have hz2 : w2.heap.size ≤ wr.heap.size := HBr.out.size
        have y0 : wr.cell? ⟨w.heap.size, 0, none⟩ = some (.int .i64 hold) := (blk_cell (blk_below HF2.out.2.1 HBr.out) 0).trans rfl
        have y1 : wr.cell? ⟨w.heap.size, 1, none⟩ = some (.int .i64 win) := (blk_cell (blk_below HF2.out.2.1 HBr.out) 1).trans rfl
        clear HI
        have HSV := Aside0.mk (show savW hold win g = wrap64 (win - wrap64 (wrap64 (g.f2 - g.f1) * hold)) from rfl)
        by_cases hsv : 0 ≤ savW hold win g
        · rw [if_pos hsv] at HR
          rw [HSV.out] at hsv
          go_wp2_with (first
            | (go_at_call 31; refine (HCS.out _ _ _ _ _ _).mono ?_; rintro e w3 ⟨rfl, hb3⟩
               have HB3 := Aside0.mk (below_step (below_alloc (Below.refl _ _) _) hb3)
               have hz3 : w2.heap.size ≤ w3.heap.size := Nat.le_trans hz2 HB3.out.size
               clear hb3)
            | (at_builtin; go_loud (refine wp_appM (w0 := w2) (W := w3) w2.heap.size 1 (by rfl) _ _ 33 3 _ 1 8 (by rfl) Try.underlying33 info3x (by rfl) (by omega) (by omega) _ ks.length (ks.flatMap eI) [.int .i64 (k : Int)] (by rfl) (by rfl) (by rfl) (by intro y hy; simp at hy; subst hy; rfl) (pw_own_below HO.out HB3.out) (below_step HBr.out HB3.out) hz3 (by omega) ?_); intro v1 w4 hown hbel hgr hat))
          go_roundw
          case rel =>
            refine ⟨k + 1, by omega, by go_num, ?_, ⟨hbel, ?_⟩⟩
            · rw [HR.out, HSV.out]
            · rw [HR.out]
              simp only [List.length_append, List.flatMap_append]
              exact hown
          case measure => simp [intOf]; omega
        · rw [if_neg hsv] at HR
          rw [HSV.out] at hsv
          go_wp2_with (go_at_call 31; refine (HCS.out _ _ _ _ _ _).mono ?_; rintro e w3 ⟨rfl, hb3⟩)
          have hb5 := below_step (below_alloc (Below.refl wr.heap.size wr) _) hb3
          go_roundw
          case rel =>
            refine ⟨k + 1, by omega, by go_num, ?_, ⟨below_step HBr.out hb5, ?_⟩⟩
            · rw [HR.out]
            · rw [HR.out]
              exact pw_own_below HO.out hb5
          case measure => simp [intOf]; omega
      · obtain rfl : k = gs.length := by omega
        go_wp2
        obtain ⟨Ao, co, hvo, hco, hCo⟩ := own_CI HI.out.2
        subst hvo
        go_ret3
        exact ⟨below_step HF2.out.1 HI.out.1, .inr ⟨HBE.out, Ao, co, gs, HP.out, HS.out, rfl, hco, hCo⟩⟩
  · have HOP := Aside0.mk (both_bad A c l hold win _ hCx hc hbe)
    have HBE := Aside0.mk hbe
    have HBX := Aside0.mk hbx
    have hn : (bothE l hold win == 0) = false := by simpa using hbe
    clear hCx hC hbx
    unfold LeastPost
    generalize bothE l hold win = be at *
    go_enter Try.func11, Try.ntmps11
    go_wp2_with (go_at_call 21; refine HOP.out.mono ?_; rintro e w1 ⟨rfl, hb⟩)
    go_ret3
    exact ⟨below_step HBX.out hb, .inl ⟨HBE.out, rfl⟩⟩
end Go.Proofs.Ytdkfmbammdmohaa.PPolicyCosts

namespace Go.Proofs.Ytdkfmbammdmohaa.PPolicyCosts
open Go.RowKit Go.Proofs.YtdkfmbammdmohaaW.PrintWords Go.Proofs.YtdkfmbammdmohaaW.PrintLast Go.Proofs.YtdkfmbammdmohaaW.PrintMore
open Go.Proofs.YtdkfmbammdmohaaM Go.Proofs.YtdkfmbammdmohaaS
attribute [local go_sem] max2_int min2_int max_two min_two max_three min_three max_four min_four
set_option linter.unusedVariables false
set_option linter.unusedSimpArgs false

/-- the ages that are tried, as they come -/
def rawA (gs : List S52) : List Int := 0 :: gs.map fun g => wrap64 (g.f2 - g.f1)
/-- .. and sorted -/
def agesA (gs : List S52) : List Int := (rawA gs).mergeSort fun x y => decide (x ≤ y)
def tuneS (C : Int → Int) (st : Int × Int) (a : Int) : Int × Int := if st.2 < 0 ∨ C a < st.2 then (a, C a) else st
def tuneR (C : Int → Int) (xs : List Int) : Int × Int := xs.foldl (tuneS C) (0, -1)
theorem tuneR_snoc (C : Int → Int) (xs : List Int) (a : Int) : tuneR C (xs ++ [a]) = tuneS C (tuneR C xs) a := by simp [tuneR, List.foldl_append]
def TunePost (l : List S73) (hold win : Int) (w : World) (e : Ending) (w' : World) : Prop :=
  Below w.heap.size w w' ∧ ((bothE l hold win ≠ 0 ∧ e = .returned (.tuple #[.int .i64 0, .int .i64 0, .int .i64 (bothE l hold win)])) ∨
    (bothE l hold win = 0 ∧ ∃ gs : List S52, gs.Perm (gapsOf l) ∧
      e = .returned (.tuple #[.int .i64 (tuneR (fun a => costV hold win a l) (agesA gs)).1, .int .i64 (tuneR (fun a => costV hold win a l) (agesA gs)).2, .int .i64 0])))

theorem flat_vI : ∀ ks : List Int, ks.flatMap eI = ks.map vI
  | [] => rfl
  | x :: r => by rw [List.flatMap_cons, List.map_cons, flat_vI r]; rfl
theorem info2x : (Try.prog.info? 2).map (fun i => (i.zero, i.size, i.bytes)) = some (some (.int .i64 0), 1, 8) := by kernel_rfl
theorem rawA_snoc (gs : List S52) (g : S52) : rawA (gs ++ [g]) = rawA gs ++ [wrap64 (g.f2 - g.f1)] := by simp [rawA]
theorem agesA_nonneg {gs : List S52} (h : ∀ g ∈ gs, okG g) : ∀ a ∈ agesA gs, 0 ≤ a := by
  intro a ha
  unfold agesA at ha
  rw [List.mem_mergeSort] at ha
  simp only [rawA, List.mem_cons, List.mem_map] at ha
  rcases ha with rfl | ⟨g, hg, rfl⟩
  · omega
  · obtain ⟨h0, h1, h2⟩ := h g hg
    unfold wrap64
    omega
theorem one_row (w : World) (e : TypeId) (x : Value) : (w.alloc (.cells #[x] e)).ownsRow w.heap.size e 1 (.slice (some ⟨w.heap.size, 0, none⟩) 1 1) 1 [x] :=
  ⟨rfl, .inr ⟨w.heap.size, 1, #[x], rfl, Nat.le_refl _, blk_new w _, Nat.le_refl _, by unfold maxLen; omega, rfl, rfl⟩⟩

set_option maxRecDepth 100000 in
set_option maxHeartbeats 8000000 in
theorem tuneF_any (A : Option Addr) (c : Nat) (l : List S73) (hold win : Int) (w : World) (hC : Kd.C k73 w A l.length l) (hc : l.length ≤ c) :
    Calls Try.prog 14 #[.slice A l.length c, .agg #[.int .i64 hold, .int .i64 win]] w (TunePost l hold win w) := by
  have hCx := Kd.C_below hC (below_alloc (Below.refl w.heap.size w) (.cells #[.int .i64 hold, .int .i64 win] 24))
  have hbx : Below w.heap.size w (w.alloc (.cells #[.int .i64 hold, .int .i64 win] 24)) := below_alloc (Below.refl w.heap.size w) _
  by_cases hbe : bothE l hold win = 0
  · have HOP := Aside0.mk (both_ok A c l hold win _ hCx hc hbe)
    have HBE := Aside0.mk hbe
    obtain ⟨hck, b0, b1, b2, b3⟩ := bothE_zero hbe
    have hgl0 := gapsOf_len l
    have hl200 := (chk_zero hck).1
    have HCK := Aside0.mk hck
    have HBX := Aside0.mk hbx
    have HY := Aside0.mk (blk_new w (.cells #[.int .i64 hold, .int .i64 win] 24))
    clear hCx hC hbe hck hbx
    go_enter Try.func14, Try.ntmps14
    go_wp2_with (first
      | (go_at_call 21; refine HOP.out.mono ?_; rintro e w1 ⟨T, base, gs, rfl, hp, hs, hT, hb⟩
         have hF : F11 T base (.slice A l.length c) gs l hold win w w1 := ⟨below_step HBX.out hb, blk_below HY.out hb, hT⟩
         clear hT
         have HP := Aside0.mk hp
         have hgl : gs.length ≤ 200 := by rw [hp.length_eq]; omega
         have HF := Aside0.mk hF
         obtain ⟨gv, M, hbT, hTT, hG, hMb, hM⟩ := hF.2.2
         have t1 : w1.cell? ⟨T, 1, none⟩ = some gv := (blk_cell hTT 1).trans rfl
         have hTl : T < w1.heap.size := blk_lt hTT
         have hYl : w.heap.size < w1.heap.size := blk_lt hF.2.1
         obtain ⟨Ag, cg, rfl, hcg, hCg⟩ := own_C52 hG
         have HCG := Aside0.mk hCg
         have hglb : gs.length ≤ 9223372036854775807 := by omega
         clear hp hs hb hF hTT hG hM hCg))
    go_loopw [8, 29] (fun v8 v29 wr => ∃ k : Nat, k ≤ gs.length ∧ v29 = .int .i64 k ∧ Aside0 (Below w1.heap.size w1 wr ∧ wr.ownsRow w1.heap.size 2 1 v8 (rawA (gs.take k)).length ((rawA (gs.take k)).map vI))) (fun v8 v29 wr => gs.length - (intOf v29).toNat)
    case atStart => exact ⟨0, Nat.zero_le _, rfl, ⟨below_alloc (Below.refl _ _) _, one_row w1 2 (.int .i64 0)⟩⟩
    case round =>
      obtain ⟨k, hk, rfl, HI⟩ := hrel
      by_cases hlt : k < gs.length
      · obtain ⟨ad, rfl, hx0, hx1, hx2⟩ := at_T52 (Kd.C_below HCG.out HI.out.1) (k : Int) (by omega) (by omega)
        have hu : rd_T52 gs (k : Int) = gs[k] := by
          unfold rd_T52
          rw [Int.toNat_natCast, List.getD_eq_getElem?_getD, List.getElem?_eq_getElem hlt]
          rfl
        rw [hu] at hx0 hx1 hx2
        simp only [Int.toNat_natCast] at hx0 hx1 hx2
        have HTK := Aside0.mk (show rawA (gs.take (k + 1)) = rawA (gs.take k) ++ [wrap64 (gs[k].f2 - gs[k].f1)] by rw [take_snoc' gs k hlt, rawA_snoc])
        have hrl : (rawA (gs.take k)).length ≤ 201 := by simp [rawA]; omega
        clear hu
        generalize gs[k] = g at *
        generalize rawA (gs.take k) = rk at *
        have hz2 : w1.heap.size ≤ wr.heap.size := HI.out.1.size
        go_wp2_with (at_builtin; go_loud (refine wp_appM (w0 := w1) (W := wr.alloc (.cells #[.int .i64 g.f0, .int .i64 g.f1, .int .i64 g.f2] 52)) w1.heap.size 1 (by rfl) _ _ 75 2 _ 1 8 (by rfl) Try.underlying75 info2x (by rfl) (by omega) (by omega) _ rk.length (rk.map vI) [.int .i64 (wrap64 (g.f2 - g.f1))] (by rfl) (by rw [World.size_alloc]; rfl) (by rfl) (by intro y hy; simp at hy; subst hy; rfl) (HI.out.2.alloc _) (below_step HI.out.1 (below_alloc (Below.refl _ _) _)) (by simp; omega) (by omega) ?_); intro v1 w4 hown hbel hgr hat)
        go_roundw
        case rel =>
          refine ⟨k + 1, by omega, by go_num, ⟨hbel, ?_⟩⟩
          rw [HTK.out, List.length_append, List.map_append]
          exact hown
        case measure => simp [intOf]; omega
      · obtain rfl : k = gs.length := by omega
        have HI2 := HI.out
        rw [List.take_length] at HI2
        obtain ⟨hBr, hor⟩ := HI2
        have HBr := Aside0.mk hBr
        have hrl : 0 < (rawA gs).length := by simp [rawA]
        have hrl2 : (rawA gs).length ≤ 201 := by simp [rawA]; omega
        have HSO := Aside0.mk (sortInt_own Try.sortI64 w1.heap.size 2 _ (rawA gs) wr hor hrl (by omega))
        have HOr := Aside0.mk hor
        clear hBr hor HI
        go_wp2_with (go_at_call 33; refine HSO.out.mono ?_; rintro en w2 ⟨rfl, hown, hgr⟩)
        have hb2 : Below w1.heap.size w1 w2 := HBr.out.grown hgr HBr.out.size (fun k hk => own_base HOr.out k hk)
        have hlA : (agesA gs).length = (rawA gs).length := List.length_mergeSort _
        rw [← hlA, show ((rawA gs).mergeSort fun x y => decide (x ≤ y)).map vI = (agesA gs).flatMap eI from (flat_vI _).symm] at hown
        obtain ⟨Aa, ca, rfl, hca, hCa⟩ := own_CI hown
        have hnn := agesA_nonneg (gs := gs) (fun g hg => (tr_facts l (chk_zero HCK.out).2.1 (chk_zero HCK.out).2.2).gaps g (HP.out.mem_iff.1 hg))
        have HNN := Aside0.mk hnn
        have hal : (agesA gs).length ≤ 201 := by omega
        have halb : (agesA gs).length ≤ 9223372036854775807 := by omega
        have HCA := Aside0.mk hCa
        have HF2 := Aside0.mk (HF.out.step hb2)
        clear hlA hown hgr hb2 HBr HOr HSO hrl hrl2 hnn hCa
        obtain ⟨ags, hags⟩ : ∃ ags, agesA gs = ags := ⟨_, rfl⟩
        rw [hags] at hal halb
        have HAG := Aside0.mk hags
        replace HNN : Aside0 (∀ a ∈ ags, 0 ≤ a) := ⟨hags ▸ HNN.out⟩
        replace HCA : Aside0 (Kd.C (Kd.int .i64) w2 Aa ags.length ags) := ⟨hags ▸ HCA.out⟩
        rw [hags] at hca ⊢
        clear hags
        go_wp2
        go_simp
        go_wp2
        go_loopw [4, 5, 46] (fun v4 v5 v46 wx => ∃ j : Nat, j ≤ ags.length ∧ v46 = .int .i64 j ∧ v4 = .int .i64 (tuneR (fun a => costV hold win a l) (ags.take j)).1 ∧ v5 = .int .i64 (tuneR (fun a => costV hold win a l) (ags.take j)).2 ∧ Aside0 (Below w2.heap.size w2 wx)) (fun v4 v5 v46 wx => ags.length - (intOf v46).toNat)
        case atStart => exact ⟨0, Nat.zero_le _, rfl, rfl, rfl, ⟨Below.refl _ _⟩⟩
        case round =>
          obtain ⟨j, hj, rfl, rfl, rfl, HBx⟩ := hrel
          by_cases hlt2 : j < ags.length
          · obtain ⟨ada, cc, hAe, _, hK, hcc⟩ := Kd.C_get (Kd.C_below HCA.out HBx.out) 0 (j : Int) (by omega) (by omega)
            subst hAe
            have hu : ags.getD (j : Int).toNat 0 = ags[j] := by
              rw [Int.toNat_natCast, List.getD_eq_getElem?_getD, List.getElem?_eq_getElem hlt2]
              rfl
            rw [hu] at hK
            have hKc : cc = [.int .i64 ags[j]] := hK
            subst hKc
            have hx := hcc 0 _ rfl
            rw [show (j : Int).toNat * (Kd.int IntKind.i64).sz + 0 = j from by show (j : Int).toNat * 1 + 0 = j; omega] at hx
            clear hcc hK hu
            have h0 := HNN.out ags[j] (List.getElem_mem hlt2)
            have HTK := Aside0.mk (show tuneR (fun a => costV hold win a l) (ags.take (j + 1)) = tuneS (fun a => costV hold win a l) (tuneR (fun a => costV hold win a l) (ags.take j)) ags[j] by rw [take_snoc' ags j hlt2, tuneR_snoc])
            generalize ags[j] = a at *
            generalize tuneR (fun a => costV hold win a l) (ags.take j) = st at *
            obtain ⟨best, cost⟩ := st
            have HFx := Aside0.mk (HF2.out.step HBx.out)
            have y0 : wr.cell? ⟨w.heap.size, 0, none⟩ = some (.int .i64 hold) := (blk_cell HFx.out.2.1 0).trans rfl
            have y1 : wr.cell? ⟨w.heap.size, 1, none⟩ = some (.int .i64 win) := (blk_cell HFx.out.2.1 1).trans rfl
            obtain ⟨C, hCv⟩ : ∃ C, costV hold win a l = C := ⟨_, rfl⟩
            have HCV := Aside0.mk hCv
            clear hCv
            by_cases h1 : cost < 0
            · go_wp2
              go_region_with (first
                | (go_at_call 23; refine (aged_any _ _).mono ?_; rintro e w3 ⟨B, rfl, hsz, hcB, hb3⟩; have HF3 := Aside0.mk ((HFx.out.step (by repeat (first | exact Below.refl _ _ | apply below_drew | apply pw_below_drewN))).step hb3); have HB3 := Aside0.mk (below_step (by repeat (first | exact Below.refl _ _ | apply below_drew | apply pw_below_drewN) : Below wr.heap.size wr _) hb3); have y0 : w3.cell? ⟨w.heap.size, 0, none⟩ = some (.int .i64 hold) := (blk_cell HF3.out.2.1 0).trans rfl; have y1 : w3.cell? ⟨w.heap.size, 1, none⟩ = some (.int .i64 win) := (blk_cell HF3.out.2.1 1).trans rfl; have HCB := Aside0.mk hcB; clear hcB hb3 hsz)
                | (go_at_call 22; refine (costV_any base T B _ l gs hold win _ _ HCK.out HP.out HF3.out.2.2 HCB.out b0 b1 b2 b3 h0).mono ?_; rintro e w4 ⟨rfl, hb4⟩))
              all_goals
                rw [HCV.out]
                go_wp2
                go_roundw
                case rel =>
                  refine ⟨j + 1, by omega, by go_num, ?_, ?_, ⟨below_step HBx.out (below_step HB3.out hb4)⟩⟩
                  · rw [HTK.out]; simp [tuneS, HCV.out, *]
                  · rw [HTK.out]; simp [tuneS, HCV.out, *]
                case measure => simp [intOf]; omega
            · by_cases h2 : C < cost
              · go_wp2
                go_region_with (first
                  | (go_at_call 23; refine (aged_any _ _).mono ?_; rintro e w3 ⟨B, rfl, hsz, hcB, hb3⟩; have HF3 := Aside0.mk ((HFx.out.step (by repeat (first | exact Below.refl _ _ | apply below_drew | apply pw_below_drewN))).step hb3); have HB3 := Aside0.mk (below_step (by repeat (first | exact Below.refl _ _ | apply below_drew | apply pw_below_drewN) : Below wr.heap.size wr _) hb3); have y0 : w3.cell? ⟨w.heap.size, 0, none⟩ = some (.int .i64 hold) := (blk_cell HF3.out.2.1 0).trans rfl; have y1 : w3.cell? ⟨w.heap.size, 1, none⟩ = some (.int .i64 win) := (blk_cell HF3.out.2.1 1).trans rfl; have HCB := Aside0.mk hcB; clear hcB hb3 hsz)
                  | (go_at_call 22; refine (costV_any base T B _ l gs hold win _ _ HCK.out HP.out HF3.out.2.2 HCB.out b0 b1 b2 b3 h0).mono ?_; rintro e w4 ⟨rfl, hb4⟩))
                all_goals
                  rw [HCV.out]
                  go_wp2
                  go_roundw
                  case rel =>
                    refine ⟨j + 1, by omega, by go_num, ?_, ?_, ⟨below_step HBx.out (below_step HB3.out hb4)⟩⟩
                    · rw [HTK.out]; simp [tuneS, HCV.out, *]
                    · rw [HTK.out]; simp [tuneS, HCV.out, *]
                  case measure => simp [intOf]; omega
              · go_wp2
                go_region_with (first
                  | (go_at_call 23; refine (aged_any _ _).mono ?_; rintro e w3 ⟨B, rfl, hsz, hcB, hb3⟩; have HF3 := Aside0.mk ((HFx.out.step (by repeat (first | exact Below.refl _ _ | apply below_drew | apply pw_below_drewN))).step hb3); have HB3 := Aside0.mk (below_step (by repeat (first | exact Below.refl _ _ | apply below_drew | apply pw_below_drewN) : Below wr.heap.size wr _) hb3); have y0 : w3.cell? ⟨w.heap.size, 0, none⟩ = some (.int .i64 hold) := (blk_cell HF3.out.2.1 0).trans rfl; have y1 : w3.cell? ⟨w.heap.size, 1, none⟩ = some (.int .i64 win) := (blk_cell HF3.out.2.1 1).trans rfl; have HCB := Aside0.mk hcB; clear hcB hb3 hsz)
                  | (go_at_call 22; refine (costV_any base T B _ l gs hold win _ _ HCK.out HP.out HF3.out.2.2 HCB.out b0 b1 b2 b3 h0).mono ?_; rintro e w4 ⟨rfl, hb4⟩))
                all_goals
                  rw [HCV.out]
                  go_wp2
                  go_roundw
                  case rel =>
                    refine ⟨j + 1, by omega, by go_num, ?_, ?_, ⟨below_step HBx.out (below_step HB3.out hb4)⟩⟩
                    · rw [HTK.out]; simp only [tuneS, HCV.out]; rw [if_neg (by omega)]
                    · rw [HTK.out]; simp only [tuneS, HCV.out]; rw [if_neg (by omega)]
                  case measure => simp [intOf]; omega
          · obtain rfl : j = ags.length := by omega
            rw [List.take_length]
            go_wp2
            go_ret3
            exact ⟨below_step HF2.out.1 HBx.out, .inr ⟨HBE.out, gs, HP.out, by rw [HAG.out]; rfl⟩⟩
  · have HOP := Aside0.mk (both_bad A c l hold win _ hCx hc hbe)
    have HBE := Aside0.mk hbe
    have HBX := Aside0.mk hbx
    have hn : (bothE l hold win == 0) = false := by simpa using hbe
    clear hCx hC hbx
    unfold TunePost
    generalize bothE l hold win = be at *
    go_enter Try.func14, Try.ntmps14
    go_wp2_with (go_at_call 21; refine HOP.out.mono ?_; rintro e w1 ⟨rfl, hb⟩)
    go_ret3
    exact ⟨below_step HBX.out hb, .inl ⟨HBE.out, rfl⟩⟩
end Go.Proofs.Ytdkfmbammdmohaa.PPolicyCosts

namespace Go.Proofs.Ytdkfmbammdmohaa.PPolicyCosts
open Go.RowKit Go.Proofs.YtdkfmbammdmohaaW.PrintWords Go.Proofs.YtdkfmbammdmohaaW.PrintLast Go.Proofs.YtdkfmbammdmohaaW.PrintMore
open Go.Proofs.YtdkfmbammdmohaaM Go.Proofs.YtdkfmbammdmohaaS
set_option linter.unusedVariables false
set_option linter.unusedSimpArgs false

theorem step_antisymm (x y : S90) (h1 : ltOf cmpStep y x = false) (h2 : ltOf cmpStep x y = false) : x = y := by
  rw [lt_cmpStep] at h1 h2
  obtain ⟨a, b, c⟩ := x
  obtain ⟨d, e, f⟩ := y
  cases b <;> cases e <;> simp at h1 h2 ⊢ <;> omega
theorem steps_unique {ss tt : List S90} (hp : ss.Perm tt) (h1 : ss.Pairwise (fun x y => ltOf cmpStep y x = false)) (h2 : tt.Pairwise (fun x y => ltOf cmpStep y x = false)) : ss = tt :=
  hp.eq_of_pairwise (fun a b _ _ => step_antisymm a b) h1 h2
theorem ages_sorted (l : List Int) : (l.mergeSort fun x y => decide (x ≤ y)).Pairwise (· ≤ ·) := by
  have := List.pairwise_mergeSort (le := fun x y : Int => decide (x ≤ y)) (fun a b c h1 h2 => by simp at *; omega) (fun a b => by simp; omega) l
  exact this.imp (fun h => by simpa using h)
theorem agesA_perm {gs ds : List S52} (h : gs.Perm ds) : agesA gs = agesA ds := by
  have hp : (agesA gs).Perm (agesA ds) := (List.mergeSort_perm _ _).trans (((h.map _).cons _).trans (List.mergeSort_perm _ _).symm)
  exact hp.eq_of_pairwise (fun a b _ _ h1 h2 => Int.le_antisymm h1 h2) (ages_sorted _) (ages_sorted _)

def exL : List S73 := [⟨1, 0, 2⟩, ⟨2, 1, 4⟩, ⟨1, 5, 6⟩, ⟨2, 20, 21⟩]
def exG : List S52 := [⟨1, 2, 5⟩, ⟨2, 4, 20⟩]
def exS : List S90 := [⟨0, true, 1⟩, ⟨1, true, 2⟩, ⟨2, false, 1⟩, ⟨4, false, 2⟩, ⟨5, true, 1⟩, ⟨6, false, 1⟩, ⟨20, true, 2⟩, ⟨21, false, 2⟩]
theorem exG_is : gapsOf exL = exG := rfl
theorem ex_both : bothE exL 2 10 = 0 := by kernel_rfl
theorem ex_chk : chk exL = 0 := by kernel_rfl
theorem ex_cost : costV 2 10 5 exL = 56 := by kernel_rfl
theorem ex_end : endOf exL = 21 := by kernel_rfl
theorem ex_gs {gs : List S52} (h : gs.Perm (gapsOf exL)) (hs : gs.Pairwise (fun x y => decide (cmpGap y x < 0) = false)) : gs = exG := by
  rw [exG_is] at h
  refine h.eq_of_pairwise (fun a b ha hb h1 h2 => ?_) hs (by simp [exG, cmpGap, orI, cmpI])
  have ha' := h.mem_iff.1 ha
  simp [exG] at ha' hb
  rcases ha' with rfl | rfl <;> rcases hb with rfl | rfl <;> first | rfl | (exfalso; simp [cmpGap, orI, cmpI] at h1; done) | (exfalso; simp [cmpGap, orI, cmpI] at h2; done)
theorem ex_least : leastR 2 10 (wrap64 ((exL.length : Int) * 10)) exG exG.length = (36, [0]) := by kernel_rfl
theorem ex_most0 : mostQ 2 10 1 (endOf exL) exS = 78 := by kernel_rfl
theorem ex_tune0 : tuneR (fun a => costV 2 10 a exL) [0, 3, 16] = (0, 40) := by kernel_rfl
theorem ex_most {ss : List S90} (h : ss.Perm (stepsOf exL)) (hs : ss.Pairwise (fun x y => ltOf cmpStep y x = false)) : mostQ 2 10 1 (endOf exL) ss = 78 := by
  have h2 : (stepsOf exL).Perm exS := List.Perm.cons _ (List.Perm.swap _ _ _)
  rw [steps_unique (h.trans h2) hs (by simp [exS, lt_cmpStep])]
  exact ex_most0
theorem ex_tune {gs : List S52} (h : gs.Perm (gapsOf exL)) : tuneR (fun a => costV 2 10 a exL) (agesA gs) = (0, 40) := by
  rw [exG_is] at h
  rw [agesA_perm h]
  have : agesA exG = [0, 3, 16] := by
    unfold agesA
    rw [show rawA exG = [0, 3, 16] from by kernel_rfl]
    exact List.mergeSort_of_pairwise (le := fun x y : Int => decide (x ≤ y)) (by decide)
  rw [this]
  exact ex_tune0
end Go.Proofs.Ytdkfmbammdmohaa.PPolicyCosts

/- policy.Tune. -/
import Derived.Test.YtdkfmbammdmohaaG3
import Derived.Test.YtdkfmbammdmohaaL1
import Derived.Test.YtdkfmbammdmohaaS2
namespace Go.Proofs.Ytdkfmbammdmohaa.PPolicyCosts
open Go.RowKit Go.Proofs.YtdkfmbammdmohaaW.PrintWords Go.Proofs.YtdkfmbammdmohaaW.PrintLast Go.Proofs.YtdkfmbammdmohaaW.PrintMore
open Go.Proofs.YtdkfmbammdmohaaM Go.Proofs.YtdkfmbammdmohaaS
attribute [local go_sem] max2_int min2_int max_two min_two max_three min_three max_four min_four
set_option linter.unusedVariables false
set_option linter.unusedSimpArgs false

/-- the ages that are tried, as they come -/
def rawA (gs : List S52) : List Int := 0 :: gs.map fun g => wrap64 (g.f2 - g.f1)
/-- .. and sorted -/
def agesA (gs : List S52) : List Int := (rawA gs).mergeSort fun x y => decide (x ≤ y)
def tuneS (C : Int → Int) (st : Int × Int) (a : Int) : Int × Int := if st.2 < 0 ∨ C a < st.2 then (a, C a) else st
def tuneR (C : Int → Int) (xs : List Int) : Int × Int := xs.foldl (tuneS C) (0, -1)
theorem tuneR_snoc (C : Int → Int) (xs : List Int) (a : Int) : tuneR C (xs ++ [a]) = tuneS C (tuneR C xs) a := by simp [tuneR, List.foldl_append]
def TunePost (l : List S73) (hold win : Int) (w : World) (e : Ending) (w' : World) : Prop :=
  Below w.heap.size w w' ∧ ((bothE l hold win ≠ 0 ∧ e = .returned (.tuple #[.int .i64 0, .int .i64 0, .int .i64 (bothE l hold win)])) ∨
    (bothE l hold win = 0 ∧ ∃ gs : List S52, gs.Perm (gapsOf l) ∧
      e = .returned (.tuple #[.int .i64 (tuneR (fun a => costV hold win a l) (agesA gs)).1, .int .i64 (tuneR (fun a => costV hold win a l) (agesA gs)).2, .int .i64 0])))

theorem flat_vI : ∀ ks : List Int, ks.flatMap eI = ks.map vI
  | [] => rfl
  | x :: r => by rw [List.flatMap_cons, List.map_cons, flat_vI r]; rfl
theorem info2x : (Try.prog.info? 2).map (fun i => (i.zero, i.size, i.bytes)) = some (some (.int .i64 0), 1, 8) := by kernel_rfl
theorem rawA_snoc (gs : List S52) (g : S52) : rawA (gs ++ [g]) = rawA gs ++ [wrap64 (g.f2 - g.f1)] := by simp [rawA]
theorem agesA_nonneg {gs : List S52} (h : ∀ g ∈ gs, okG g) : ∀ a ∈ agesA gs, 0 ≤ a := by
  intro a ha
  unfold agesA at ha
  rw [List.mem_mergeSort] at ha
  simp only [rawA, List.mem_cons, List.mem_map] at ha
  rcases ha with rfl | ⟨g, hg, rfl⟩
  · omega
  · obtain ⟨h0, h1, h2⟩ := h g hg
    unfold wrap64
    omega
theorem one_row (w : World) (e : TypeId) (x : Value) : (w.alloc (.cells #[x] e)).ownsRow w.heap.size e 1 (.slice (some ⟨w.heap.size, 0, none⟩) 1 1) 1 [x] :=
  ⟨rfl, .inr ⟨w.heap.size, 1, #[x], rfl, Nat.le_refl _, blk_new w _, Nat.le_refl _, by unfold maxLen; omega, rfl, rfl⟩⟩

set_option maxRecDepth 100000 in
set_option maxHeartbeats 8000000 in
theorem tuneF_any (A : Option Addr) (c : Nat) (l : List S73) (hold win : Int) (w : World) (hC : Kd.C k73 w A l.length l) (hc : l.length ≤ c) :
    Calls Try.prog 14 #[.slice A l.length c, .agg #[.int .i64 hold, .int .i64 win]] w (TunePost l hold win w) := by
  have hCx := Kd.C_below hC (below_alloc (Below.refl w.heap.size w) (.cells #[.int .i64 hold, .int .i64 win] 24))
  have hbx : Below w.heap.size w (w.alloc (.cells #[.int .i64 hold, .int .i64 win] 24)) := below_alloc (Below.refl w.heap.size w) _
  by_cases hbe : bothE l hold win = 0
  · have HOP := Aside0.mk (both_ok A c l hold win _ hCx hc hbe)
    have HBE := Aside0.mk hbe
    obtain ⟨hck, b0, b1, b2, b3⟩ := bothE_zero hbe
    have hgl0 := gapsOf_len l
    have hl200 := (chk_zero hck).1
    have HCK := Aside0.mk hck
    have HBX := Aside0.mk hbx
    have HY := Aside0.mk (blk_new w (.cells #[.int .i64 hold, .int .i64 win] 24))
    clear hCx hC hbe hck hbx
    go_enter Try.func14, Try.ntmps14
    go_wp2_with (first
      | (go_at_call 21; refine HOP.out.mono ?_; rintro e w1 ⟨T, base, gs, rfl, hp, hs, hT, hb⟩
         have hF : F11 T base (.slice A l.length c) gs l hold win w w1 := ⟨below_step HBX.out hb, blk_below HY.out hb, hT⟩
         clear hT
         have HP := Aside0.mk hp
         have hgl : gs.length ≤ 200 := by rw [hp.length_eq]; omega
         have HF := Aside0.mk hF
         obtain ⟨gv, M, hbT, hTT, hG, hMb, hM⟩ := hF.2.2
         have t1 : w1.cell? ⟨T, 1, none⟩ = some gv := (blk_cell hTT 1).trans rfl
         have hTl : T < w1.heap.size := blk_lt hTT
         have hYl : w.heap.size < w1.heap.size := blk_lt hF.2.1
         obtain ⟨Ag, cg, rfl, hcg, hCg⟩ := own_C52 hG
         have HCG := Aside0.mk hCg
         have hglb : gs.length ≤ 9223372036854775807 := by omega
         clear hp hs hb hF hTT hG hM hCg))
    go_loopw [8, 29] (fun v8 v29 wr => ∃ k : Nat, k ≤ gs.length ∧ v29 = .int .i64 k ∧ Aside0 (Below w1.heap.size w1 wr ∧ wr.ownsRow w1.heap.size 2 1 v8 (rawA (gs.take k)).length ((rawA (gs.take k)).map vI))) (fun v8 v29 wr => gs.length - (intOf v29).toNat)
    case atStart => exact ⟨0, Nat.zero_le _, rfl, ⟨below_alloc (Below.refl _ _) _, one_row w1 2 (.int .i64 0)⟩⟩
    case round =>
      obtain ⟨k, hk, rfl, HI⟩ := hrel
      by_cases hlt : k < gs.length
      · obtain ⟨ad, rfl, hx0, hx1, hx2⟩ := at_T52 (Kd.C_below HCG.out HI.out.1) (k : Int) (by omega) (by omega)
        have hu : rd_T52 gs (k : Int) = gs[k] := by
          unfold rd_T52
          rw [Int.toNat_natCast, List.getD_eq_getElem?_getD, List.getElem?_eq_getElem hlt]
          rfl
        rw [hu] at hx0 hx1 hx2
        simp only [Int.toNat_natCast] at hx0 hx1 hx2
        have HTK := Aside0.mk (show rawA (gs.take (k + 1)) = rawA (gs.take k) ++ [wrap64 (gs[k].f2 - gs[k].f1)] by rw [take_snoc' gs k hlt, rawA_snoc])
        have hrl : (rawA (gs.take k)).length ≤ 201 := by simp [rawA]; omega
        clear hu
        generalize gs[k] = g at *
        generalize rawA (gs.take k) = rk at *
        have hz2 : w1.heap.size ≤ wr.heap.size := HI.out.1.size
        go_wp2_with (at_builtin; go_loud (refine wp_appM (w0 := w1) (W := wr.alloc (.cells #[.int .i64 g.f0, .int .i64 g.f1, .int .i64 g.f2] 52)) w1.heap.size 1 (by rfl) _ _ 75 2 _ 1 8 (by rfl) Try.underlying75 info2x (by rfl) (by omega) (by omega) _ rk.length (rk.map vI) [.int .i64 (wrap64 (g.f2 - g.f1))] (by rfl) (by rw [World.size_alloc]; rfl) (by rfl) (by intro y hy; simp at hy; subst hy; rfl) (HI.out.2.alloc _) (below_step HI.out.1 (below_alloc (Below.refl _ _) _)) (by simp; omega) (by omega) ?_); intro v1 w4 hown hbel hgr hat)
        go_roundw
        case rel =>
          refine ⟨k + 1, by omega, by go_num, ⟨hbel, ?_⟩⟩
          rw [HTK.out, List.length_append, List.map_append]
          exact hown
        case measure => simp [intOf]; omega
      · obtain rfl : k = gs.length := by omega
        have HI2 := HI.out
        rw [List.take_length] at HI2
        obtain ⟨hBr, hor⟩ := HI2
        have HBr := Aside0.mk hBr
        have hrl : 0 < (rawA gs).length := by simp [rawA]
        have hrl2 : (rawA gs).length ≤ 201 := by simp [rawA]; omega
        have HSO := Aside0.mk (sortInt_own Try.sortI64 w1.heap.size 2 _ (rawA gs) wr hor hrl (by omega))
        have HOr := Aside0.mk hor
        clear hBr hor HI
        go_wp2_with (go_at_call 33; refine HSO.out.mono ?_; rintro en w2 ⟨rfl, hown, hgr⟩)
        have hb2 : Below w1.heap.size w1 w2 := HBr.out.grown hgr HBr.out.size (fun k hk => own_base HOr.out k hk)
        have hlA : (agesA gs).length = (rawA gs).length := List.length_mergeSort _
        rw [← hlA, show ((rawA gs).mergeSort fun x y => decide (x ≤ y)).map vI = (agesA gs).flatMap eI from (flat_vI _).symm] at hown
        obtain ⟨Aa, ca, rfl, hca, hCa⟩ := own_CI hown
        have hnn := agesA_nonneg (gs := gs) (fun g hg => (tr_facts l (chk_zero HCK.out).2.1 (chk_zero HCK.out).2.2).gaps g (HP.out.mem_iff.1 hg))
        have HNN := Aside0.mk hnn
        have hal : (agesA gs).length ≤ 201 := by omega
        have halb : (agesA gs).length ≤ 9223372036854775807 := by omega
        have HCA := Aside0.mk hCa
        have HF2 := Aside0.mk (HF.out.step hb2)
        clear hlA hown hgr hb2 HBr HOr HSO hrl hrl2 hnn hCa
        obtain ⟨ags, hags⟩ : ∃ ags, agesA gs = ags := ⟨_, rfl⟩
        rw [hags] at hal halb
        have HAG := Aside0.mk hags
        replace HNN : Aside0 (∀ a ∈ ags, 0 ≤ a) := ⟨hags ▸ HNN.out⟩
        replace HCA : Aside0 (Kd.C (Kd.int .i64) w2 Aa ags.length ags) := ⟨hags ▸ HCA.out⟩
        rw [hags] at hca ⊢
        clear hags
        go_wp2
        go_simp
        go_wp2
        go_loopw [4, 5, 46] (fun v4 v5 v46 wx => ∃ j : Nat, j ≤ ags.length ∧ v46 = .int .i64 j ∧ v4 = .int .i64 (tuneR (fun a => costV hold win a l) (ags.take j)).1 ∧ v5 = .int .i64 (tuneR (fun a => costV hold win a l) (ags.take j)).2 ∧ Aside0 (Below w2.heap.size w2 wx)) (fun v4 v5 v46 wx => ags.length - (intOf v46).toNat)
        case atStart => exact ⟨0, Nat.zero_le _, rfl, rfl, rfl, ⟨Below.refl _ _⟩⟩
        case round =>
          obtain ⟨j, hj, rfl, rfl, rfl, HBx⟩ := hrel
          by_cases hlt2 : j < ags.length
          · obtain ⟨ada, cc, hAe, _, hK, hcc⟩ := Kd.C_get (Kd.C_below HCA.out HBx.out) 0 (j : Int) (by omega) (by omega)
            subst hAe
            have hu : ags.getD (j : Int).toNat 0 = ags[j] := by
              rw [Int.toNat_natCast, List.getD_eq_getElem?_getD, List.getElem?_eq_getElem hlt2]
              rfl
            rw [hu] at hK
            have hKc : cc = [.int .i64 ags[j]] := hK
            subst hKc
            have hx := hcc 0 _ rfl
            rw [show (j : Int).toNat * (Kd.int IntKind.i64).sz + 0 = j from by show (j : Int).toNat * 1 + 0 = j; omega] at hx
            clear hcc hK hu
            have h0 := HNN.out ags[j] (List.getElem_mem hlt2)
            have HTK := Aside0.mk (show tuneR (fun a => costV hold win a l) (ags.take (j + 1)) = tuneS (fun a => costV hold win a l) (tuneR (fun a => costV hold win a l) (ags.take j)) ags[j] by rw [take_snoc' ags j hlt2, tuneR_snoc])
            generalize ags[j] = a at *
            generalize tuneR (fun a => costV hold win a l) (ags.take j) = st at *
            obtain ⟨best, cost⟩ := st
            have HFx := Aside0.mk (HF2.out.step HBx.out)
            have y0 : wr.cell? ⟨w.heap.size, 0, none⟩ = some (.int .i64 hold) := (blk_cell HFx.out.2.1 0).trans rfl
            have y1 : wr.cell? ⟨w.heap.size, 1, none⟩ = some (.int .i64 win) := (blk_cell HFx.out.2.1 1).trans rfl
            obtain ⟨C, hCv⟩ : ∃ C, costV hold win a l = C := ⟨_, rfl⟩
            have HCV := Aside0.mk hCv
            clear hCv
            by_cases h1 : cost < 0
            · go_wp2
              go_region_with (first
                | (go_at_call 23; refine (aged_any _ _).mono ?_; rintro e w3 ⟨B, rfl, hsz, hcB, hb3⟩; have HF3 := Aside0.mk ((HFx.out.step (by repeat (first | exact Below.refl _ _ | apply below_drew | apply pw_below_drewN))).step hb3); have HB3 := Aside0.mk (below_step (by repeat (first | exact Below.refl _ _ | apply below_drew | apply pw_below_drewN) : Below wr.heap.size wr _) hb3); have y0 : w3.cell? ⟨w.heap.size, 0, none⟩ = some (.int .i64 hold) := (blk_cell HF3.out.2.1 0).trans rfl; have y1 : w3.cell? ⟨w.heap.size, 1, none⟩ = some (.int .i64 win) := (blk_cell HF3.out.2.1 1).trans rfl; have HCB := Aside0.mk hcB; clear hcB hb3 hsz)
                | (go_at_call 22; refine (costV_any base T B _ l gs hold win _ _ HCK.out HP.out HF3.out.2.2 HCB.out b0 b1 b2 b3 h0).mono ?_; rintro e w4 ⟨rfl, hb4⟩))
              all_goals
                rw [HCV.out]
                go_wp2
                go_roundw
                case rel =>
                  refine ⟨j + 1, by omega, by go_num, ?_, ?_, ⟨below_step HBx.out (below_step HB3.out hb4)⟩⟩
                  · rw [HTK.out]; simp [tuneS, HCV.out, *]
                  · rw [HTK.out]; simp [tuneS, HCV.out, *]
                case measure => simp [intOf]; omega
            · by_cases h2 : C < cost
              · go_wp2
                go_region_with (first
                  | (go_at_call 23; refine (aged_any _ _).mono ?_; rintro e w3 ⟨B, rfl, hsz, hcB, hb3⟩; have HF3 := Aside0.mk ((HFx.out.step (by repeat (first | exact Below.refl _ _ | apply below_drew | apply pw_below_drewN))).step hb3); have HB3 := Aside0.mk (below_step (by repeat (first | exact Below.refl _ _ | apply below_drew | apply pw_below_drewN) : Below wr.heap.size wr _) hb3); have y0 : w3.cell? ⟨w.heap.size, 0, none⟩ = some (.int .i64 hold) := (blk_cell HF3.out.2.1 0).trans rfl; have y1 : w3.cell? ⟨w.heap.size, 1, none⟩ = some (.int .i64 win) := (blk_cell HF3.out.2.1 1).trans rfl; have HCB := Aside0.mk hcB; clear hcB hb3 hsz)
                  | (go_at_call 22; refine (costV_any base T B _ l gs hold win _ _ HCK.out HP.out HF3.out.2.2 HCB.out b0 b1 b2 b3 h0).mono ?_; rintro e w4 ⟨rfl, hb4⟩))
                all_goals
                  rw [HCV.out]
                  go_wp2
                  go_roundw
                  case rel =>
                    refine ⟨j + 1, by omega, by go_num, ?_, ?_, ⟨below_step HBx.out (below_step HB3.out hb4)⟩⟩
                    · rw [HTK.out]; simp [tuneS, HCV.out, *]
                    · rw [HTK.out]; simp [tuneS, HCV.out, *]
                  case measure => simp [intOf]; omega
              · go_wp2
                go_region_with (first
                  | (go_at_call 23; refine (aged_any _ _).mono ?_; rintro e w3 ⟨B, rfl, hsz, hcB, hb3⟩; have HF3 := Aside0.mk ((HFx.out.step (by repeat (first | exact Below.refl _ _ | apply below_drew | apply pw_below_drewN))).step hb3); have HB3 := Aside0.mk (below_step (by repeat (first | exact Below.refl _ _ | apply below_drew | apply pw_below_drewN) : Below wr.heap.size wr _) hb3); have y0 : w3.cell? ⟨w.heap.size, 0, none⟩ = some (.int .i64 hold) := (blk_cell HF3.out.2.1 0).trans rfl; have y1 : w3.cell? ⟨w.heap.size, 1, none⟩ = some (.int .i64 win) := (blk_cell HF3.out.2.1 1).trans rfl; have HCB := Aside0.mk hcB; clear hcB hb3 hsz)
                  | (go_at_call 22; refine (costV_any base T B _ l gs hold win _ _ HCK.out HP.out HF3.out.2.2 HCB.out b0 b1 b2 b3 h0).mono ?_; rintro e w4 ⟨rfl, hb4⟩))
                all_goals
                  rw [HCV.out]
                  go_wp2
                  go_roundw
                  case rel =>
                    refine ⟨j + 1, by omega, by go_num, ?_, ?_, ⟨below_step HBx.out (below_step HB3.out hb4)⟩⟩
                    · rw [HTK.out]; simp only [tuneS, HCV.out]; rw [if_neg (by omega)]
                    · rw [HTK.out]; simp only [tuneS, HCV.out]; rw [if_neg (by omega)]
                  case measure => simp [intOf]; omega
          · obtain rfl : j = ags.length := by omega
            rw [List.take_length]
            go_wp2
            go_ret3
            exact ⟨below_step HF2.out.1 HBx.out, .inr ⟨HBE.out, gs, HP.out, by rw [HAG.out]; rfl⟩⟩
  · have HOP := Aside0.mk (both_bad A c l hold win _ hCx hc hbe)
    have HBE := Aside0.mk hbe
    have HBX := Aside0.mk hbx
    have hn : (bothE l hold win == 0) = false := by simpa using hbe
    clear hCx hC hbx
    unfold TunePost
    generalize bothE l hold win = be at *
    go_enter Try.func14, Try.ntmps14
    go_wp2_with (go_at_call 21; refine HOP.out.mono ?_; rintro e w1 ⟨rfl, hb⟩)
    go_ret3
    exact ⟨below_step HBX.out hb, .inl ⟨HBE.out, rfl⟩⟩
end Go.Proofs.Ytdkfmbammdmohaa.PPolicyCosts

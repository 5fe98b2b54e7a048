/- The walk of known31. -/
import Derived.Test.YtdkfmbammdmohaaY9
namespace Go.Proofs.Ytdkfmbammdmohaa.PPolicyCosts
open Go.RowKit Go.Proofs.YtdkfmbammdmohaaW.PrintWords Go.Proofs.YtdkfmbammdmohaaW.PrintLast Go.Proofs.YtdkfmbammdmohaaW.PrintMore
open Go.Proofs.YtdkfmbammdmohaaM Go.Proofs.YtdkfmbammdmohaaS
attribute [local go_sem] max2_int min2_int max_two min_two max_three min_three max_four min_four
set_option linter.unusedVariables false
set_option linter.unusedSimpArgs false

theorem ex_sea : SeaF exL (gapsR exL exL.length) 21 2 10 5 1 := by
  have hbz := bothE_zero ex_both
  obtain ⟨hl, c2, c3⟩ := chk_zero hbz.1
  have dis : exL.Pairwise (fun a b => a.f0 = b.f0 → a.f2 < b.f1) := by unfold exL; decide
  have tr : Tr3 exL := ⟨by unfold exL; decide, dis, by unfold exL; decide⟩
  have hw : wrap64 ((exL.length : Int) * 10) = 40 := by show wrap64 (4 * 10) = 40; unfold wrap64; omega
  have hlen : (gapsR exL exL.length).length = 2 := by rw [(gapsR_is exL).1.length_eq, exG_is]; rfl
  refine ⟨tr, ⟨by unfold exL; decide, by unfold exL; decide, dis⟩, c3, ex_both, by decide, rfl, ex_end.symm, ⟨gapsR_few tr c3, by omega, (gapsR_is _).2, by decide, by decide, by decide, by decide, ?_, ?_⟩, by decide, by decide, by decide, by decide⟩
  · rw [hlen, hw]; decide
  · rw [hw]; decide
theorem ex_keepV : costV 2 10 1000000000 exL = 88 := by kernel_rfl
theorem ex_dropV : costV 2 10 0 exL = 40 := by kernel_rfl
theorem ex_sort : SortedS exS := by unfold SortedS; simp [exS, lt_cmpStep]
theorem ex_l1 : (liveR exL 2 10 1 0 0 (21 : Int).toNat).cost = 88 := by
  have h := live_keep (hold := 2) (win := 10) (age := 0) (most := 0) ex_sea.tr
  rw [ex_end, ex_keepV] at h
  exact h.trans (by unfold wrap64; omega)
theorem ex_l2 : (liveR exL 2 10 2 0 0 (21 : Int).toNat).cost = 40 := by
  have h := live_drop (hold := 2) (win := 10) (age := 0) (most := 0) ex_sea.tr
  rw [ex_end, ex_dropV] at h
  exact h.trans (by unfold wrap64; omega)
theorem ex_l3 : (liveR exL 2 10 3 5 0 (21 : Int).toNat).cost = 56 := by
  have h := live_age (hold := 2) (win := 10) (age := 5) (most := 0) ex_sea.tr (by decide)
  rw [ex_end, ex_cost] at h
  exact h.trans (by unfold wrap64; omega)
theorem ex_l4 : (liveR exL 2 10 4 0 1 (21 : Int).toNat).cost = 78 := by
  have h2 : exS.Perm (stepsOf exL) := (List.Perm.cons _ (List.Perm.swap _ _ _)).symm
  have h := live_most (hold := 2) (win := 10) (limit := 1) (age := 0) ex_sea.lf ex_sea.pg h2 ex_sort (by decide)
  rw [ex_most0, ex_end] at h
  exact h
theorem exLst (A : Option Addr) (c : Nat) (w : World) (hC : Kd.C k73 w A 4 exL) (hc : 4 ≤ c) :
    Calls Try.prog 11 #[.slice A 4 c, .agg #[.int .i64 2, .int .i64 10]] w fun e w' => ∃ Ak ck, e = .returned (.tuple #[.slice Ak 1 ck, .int .i64 36, .int .i64 0]) ∧ 1 ≤ ck ∧ Kd.C (Kd.int .i64) w' Ak 1 [0] ∧ Below w.heap.size w w' :=
  (leastF_any A c exL 2 10 w hC hc).mono fun e w' h => by
    obtain ⟨hb, h | ⟨_, Ak, ck, gs, h1, h2, rfl, h4, h5⟩⟩ := h
    · exact absurd ex_both h.1
    · obtain rfl := ex_gs h1 h2
      rw [ex_least] at h4 h5 ⊢
      exact ⟨Ak, ck, rfl, h4, h5, hb⟩
theorem litU (w : World) : Kd.C k73 (w.alloc (.cells #[.int .i64 1, .int .i64 0, .int .i64 2, .int .i64 2, .int .i64 1, .int .i64 4, .int .i64 1, .int .i64 5, .int .i64 6, .int .i64 2, .int .i64 20, .int .i64 21] 73)) (some ⟨w.heap.size, 0, none⟩) 4 exL := by
  obtain ⟨A, c, he, hc, hC⟩ := own_C73 (w := w.alloc (.cells #[.int .i64 1, .int .i64 0, .int .i64 2, .int .i64 2, .int .i64 1, .int .i64 4, .int .i64 1, .int .i64 5, .int .i64 6, .int .i64 2, .int .i64 20, .int .i64 21] 73)) (base := w.heap.size) (gv := .slice (some ⟨w.heap.size, 0, none⟩) 4 4) (gs := exL) ⟨rfl, .inr ⟨w.heap.size, 4, _, rfl, Nat.le_refl _, blk_new w _, Nat.le_refl _, by unfold maxLen; omega, rfl, rfl⟩⟩
  injection he with h1 h2 h3
  subst h1
  exact hC
theorem litI (w : World) : Kd.C (Kd.int .i64) (w.alloc (.cells #[.int .i64 0] 3)) (some ⟨w.heap.size, 0, none⟩) 1 [0] := by
  obtain ⟨A, c, he, hc, hC⟩ := own_CI (w := w.alloc (.cells #[.int .i64 0] 3)) (base := w.heap.size) (ty := 3) (v := .slice (some ⟨w.heap.size, 0, none⟩) 1 1) (ks := [0]) ⟨rfl, .inr ⟨w.heap.size, 1, _, rfl, Nat.le_refl _, blk_new w _, Nat.le_refl _, by unfold maxLen; omega, rfl, rfl⟩⟩
  injection he with h1 h2 h3
  subst h1
  exact hC
def exX : List S86 := [⟨1, 0, 1⟩, ⟨2, 1, 2⟩, ⟨1, 2, 0⟩, ⟨2, 5, 0⟩]
theorem litX (w : World) (T : TypeId) : Kd.C k86 (w.alloc (.cells #[.int .u8 1, .int .u8 0, .int .u8 1, .int .u8 2, .int .u8 1, .int .u8 2, .int .u8 1, .int .u8 2, .int .u8 0, .int .u8 2, .int .u8 5, .int .u8 0] T)) (some ⟨w.heap.size, 0, none⟩) 4 exX := by
  have hb := blk_new w (.cells #[.int .u8 1, .int .u8 0, .int .u8 1, .int .u8 2, .int .u8 1, .int .u8 2, .int .u8 1, .int .u8 2, .int .u8 0, .int .u8 2, .int .u8 5, .int .u8 0] T)
  have hcell := fun i => blk_cell hb i
  refine ⟨rfl, by omega, fun hn => ⟨⟨w.heap.size, 0, none⟩, rfl, fun j p hp => ⟨_, rfl, k86_mk _ p, fun i u hu => ?_⟩⟩⟩
  have hj : j < 4 := (List.getElem?_eq_some_iff.1 hp).1
  have hi : i < 3 := (List.getElem?_eq_some_iff.1 hu).1
  match j, hj, hp with
  | 0, _, hp => simp [exX] at hp; subst hp; match i, hi, hu with
    | 0, _, hu => simp at hu; subst hu; exact hcell 0
    | 1, _, hu => simp at hu; subst hu; exact hcell 1
    | 2, _, hu => simp at hu; subst hu; exact hcell 2
  | 1, _, hp => simp [exX] at hp; subst hp; match i, hi, hu with
    | 0, _, hu => simp at hu; subst hu; exact hcell 3
    | 1, _, hu => simp at hu; subst hu; exact hcell 4
    | 2, _, hu => simp at hu; subst hu; exact hcell 5
  | 2, _, hp => simp [exX] at hp; subst hp; match i, hi, hu with
    | 0, _, hu => simp at hu; subst hu; exact hcell 6
    | 1, _, hu => simp at hu; subst hu; exact hcell 7
    | 2, _, hu => simp at hu; subst hu; exact hcell 8
  | 3, _, hp => simp [exX] at hp; subst hp; match i, hi, hu with
    | 0, _, hu => simp at hu; subst hu; exact hcell 9
    | 1, _, hu => simp at hu; subst hu; exact hcell 10
    | 2, _, hu => simp at hu; subst hu; exact hcell 11

structure KnI (b0 : Nat) (w wr : World) : Prop where
  bel : Below w.heap.size w wr
  o : w.heap.size ≤ b0
  l : Kd.C k73 wr (some ⟨b0, 0, none⟩) 4 exL
  c : wr.heap[b0 + 1]? = some (.cells #[.int .i64 2, .int .i64 10] 24 (0, 0))
  t : wr.heap[b0 + 1 + 1]? = some (.cells #[.int .i64 88, .int .i64 40, .int .i64 56, .int .i64 78] 2 (0, 0))
  p : wr.heap[b0 + 1 + 1 + 1]? = some (.cells #[.int .i64 1, .int .i64 0, .int .i64 0, .int .i64 2, .int .i64 0, .int .i64 0, .int .i64 3, .int .i64 5, .int .i64 0, .int .i64 4, .int .i64 0, .int .i64 1] 26 (0, 0))
theorem KnI.step {b0 : Nat} {w wr wq : World} (h : KnI b0 w wr) (hb : Below wr.heap.size wr wq) : KnI b0 w wq :=
  ⟨below_step h.bel hb, h.o, Kd.C_below h.l hb, blk_below h.c hb, blk_below h.t hb, blk_below h.p hb⟩

theorem known_start (w : World) : KnI w.heap.size w ((((w.alloc (.cells #[.int .i64 1, .int .i64 0, .int .i64 2, .int .i64 2, .int .i64 1, .int .i64 4, .int .i64 1, .int .i64 5, .int .i64 6, .int .i64 2, .int .i64 20, .int .i64 21] 73)).alloc (.cells #[.int .i64 2, .int .i64 10] 24)).alloc (.cells #[.int .i64 88, .int .i64 40, .int .i64 56, .int .i64 78] 2)).alloc (.cells #[.int .i64 1, .int .i64 0, .int .i64 0, .int .i64 2, .int .i64 0, .int .i64 0, .int .i64 3, .int .i64 5, .int .i64 0, .int .i64 4, .int .i64 0, .int .i64 1] 26)) := by
  have hl := litU w
  generalize hw1 : w.alloc (.cells #[.int .i64 1, .int .i64 0, .int .i64 2, .int .i64 2, .int .i64 1, .int .i64 4, .int .i64 1, .int .i64 5, .int .i64 6, .int .i64 2, .int .i64 20, .int .i64 21] 73) = w1 at *
  have s1 : w1.heap.size = w.heap.size + 1 := by rw [← hw1]; exact World.size_alloc _ _
  have b1 : Below w.heap.size w w1 := by rw [← hw1]; exact below_alloc (Below.refl _ _) _
  have n2 := blk_new w1 (.cells #[.int .i64 2, .int .i64 10] 24)
  generalize hw2 : w1.alloc (.cells #[.int .i64 2, .int .i64 10] 24) = w2 at *
  have s2 : w2.heap.size = w1.heap.size + 1 := by rw [← hw2]; exact World.size_alloc _ _
  have b2 : Below w1.heap.size w1 w2 := by rw [← hw2]; exact below_alloc (Below.refl _ _) _
  have n3 := blk_new w2 (.cells #[.int .i64 88, .int .i64 40, .int .i64 56, .int .i64 78] 2)
  generalize hw3 : w2.alloc (.cells #[.int .i64 88, .int .i64 40, .int .i64 56, .int .i64 78] 2) = w3 at *
  have s3 : w3.heap.size = w2.heap.size + 1 := by rw [← hw3]; exact World.size_alloc _ _
  have b3 : Below w2.heap.size w2 w3 := by rw [← hw3]; exact below_alloc (Below.refl _ _) _
  have n4 := blk_new w3 (.cells #[.int .i64 1, .int .i64 0, .int .i64 0, .int .i64 2, .int .i64 0, .int .i64 0, .int .i64 3, .int .i64 5, .int .i64 0, .int .i64 4, .int .i64 0, .int .i64 1] 26)
  have b4 : Below w3.heap.size w3 (w3.alloc (.cells #[.int .i64 1, .int .i64 0, .int .i64 0, .int .i64 2, .int .i64 0, .int .i64 0, .int .i64 3, .int .i64 5, .int .i64 0, .int .i64 4, .int .i64 0, .int .i64 1] 26)) := below_alloc (Below.refl _ _) _
  rw [s3, s2, s1] at n4
  rw [s2, s1] at n3
  rw [s1] at n2
  exact ⟨below_step b1 (below_step b2 (below_step b3 b4)), Nat.le_refl _, Kd.C_below (Kd.C_below (Kd.C_below hl b2) b3) b4, blk_below (blk_below n2 b3) b4, blk_below n3 b4, n4⟩

set_option maxRecDepth 100000 in
set_option maxHeartbeats 8000000 in
theorem known31_any (w : World) : Calls Try.prog 16 #[] w fun e w' => e = .returned (.bool true) ∧ Below w.heap.size w w' := by
  go_enter Try.func16, Try.ntmps16
  go_wp2
  have HS := Aside0.mk (show KnI w.heap.size w _ from known_start w)
  generalize (((w.alloc (.cells #[.int .i64 1, .int .i64 0, .int .i64 2, .int .i64 2, .int .i64 1, .int .i64 4, .int .i64 1, .int .i64 5, .int .i64 6, .int .i64 2, .int .i64 20, .int .i64 21] 73)).alloc (.cells #[.int .i64 2, .int .i64 10] 24)).alloc (.cells #[.int .i64 88, .int .i64 40, .int .i64 56, .int .i64 78] 2)).alloc (.cells #[.int .i64 1, .int .i64 0, .int .i64 0, .int .i64 2, .int .i64 0, .int .i64 0, .int .i64 3, .int .i64 5, .int .i64 0, .int .i64 4, .int .i64 0, .int .i64 1] 26) = w0 at *
  have hb0 : w.heap.size ≤ w.heap.size := Nat.le_refl _
  obtain ⟨b0, hb0⟩ : ∃ b0, w.heap.size = b0 := ⟨_, rfl⟩
  rw [hb0]
  rw [hb0] at HS
  go_loopw [24] (fun v24 wr => ∃ k : Nat, k ≤ 4 ∧ v24 = .int .i64 k ∧ Aside0 (KnI b0 w wr)) (fun v24 wr => 4 - (intOf v24).toNat)
  case atStart => exact ⟨0, by omega, rfl, HS⟩
  case round =>
  clear HS
  obtain ⟨k, hk, rfl, HI⟩ := hrel
  have hz : b0 + 1 + 1 + 1 < wr.heap.size := blk_lt HI.out.p
  by_cases hlt : k < 4
  · rcases (by omega : k = 0 ∨ k = 1 ∨ k = 2 ∨ k = 3) with rfl | rfl | rfl | rfl
    · rw [show ((0 : Nat) : Int) = 0 from rfl]
      have z0 : wr.cell? ⟨b0 + 1 + 1 + 1, 0, none⟩ = some (.int .i64 1) := (blk_cell HI.out.p 0).trans rfl
      have z1 : wr.cell? ⟨b0 + 1 + 1 + 1, 1, none⟩ = some (.int .i64 0) := (blk_cell HI.out.p 1).trans rfl
      have z2 : wr.cell? ⟨b0 + 1 + 1 + 1, 2, none⟩ = some (.int .i64 0) := (blk_cell HI.out.p 2).trans rfl
      have k0 : wr.cell? ⟨b0 + 1, 0, none⟩ = some (.int .i64 2) := (blk_cell HI.out.c 0).trans rfl
      have k1 : wr.cell? ⟨b0 + 1, 1, none⟩ = some (.int .i64 10) := (blk_cell HI.out.c 1).trans rfl
      have k2 : b0 + 1 < wr.heap.size := blk_lt HI.out.c
      have HA := Aside0.mk (show KnI b0 w (wr.alloc (.cells #[.int .i64 1, .int .i64 0, .int .i64 0] 26)) from HI.out.step (below_alloc (Below.refl _ _) _))
      have HAB := Aside0.mk (blk_new wr (.cells #[.int .i64 1, .int .i64 0, .int .i64 0] 26))
      have HLC1 := Aside0.mk (cost_sea ex_sea (some ⟨b0, 0, none⟩) 4 _ HA.out.l (Nat.le_refl _) 1 0 0 rfl (by decide) (by decide))
      have HLV1 := Aside0.mk (fun W (hW : KnI b0 w W) => live_sea ex_sea (some ⟨b0, 0, none⟩) 4 W hW.l (Nat.le_refl _) 1 0 0 (by decide))
      rw [ex_l1] at HLC1 HLV1
      go_wp2_with (go_at_call 9; refine HLC1.out.mono ?_; rintro e w6 ⟨rfl, hb6⟩
                   have HI6 := Aside0.mk (HA.out.step hb6)
                   have HAB6 := Aside0.mk (blk_below HAB.out hb6)
                   have HB6 := Aside0.mk (below_step (below_alloc (Below.refl wr.heap.size wr) (.cells #[.int .i64 1, .int .i64 0, .int .i64 0] 26)) hb6)
                   clear hb6)
      have p0 : w6.cell? ⟨wr.heap.size, 0, none⟩ = some (.int .i64 1) := (blk_cell HAB6.out 0).trans rfl
      have p1 : w6.cell? ⟨wr.heap.size, 1, none⟩ = some (.int .i64 0) := (blk_cell HAB6.out 1).trans rfl
      have p2 : w6.cell? ⟨wr.heap.size, 2, none⟩ = some (.int .i64 0) := (blk_cell HAB6.out 2).trans rfl
      have c0 : w6.cell? ⟨b0 + 1, 0, none⟩ = some (.int .i64 2) := (blk_cell HI6.out.c 0).trans rfl
      have c1 : w6.cell? ⟨b0 + 1, 1, none⟩ = some (.int .i64 10) := (blk_cell HI6.out.c 1).trans rfl
      have t0 : w6.cell? ⟨b0 + 1 + 1, 0, none⟩ = some (.int .i64 88) := (blk_cell HI6.out.t 0).trans rfl
      have hc6 : b0 + 1 < w6.heap.size := blk_lt HI6.out.c
      have ht6 : b0 + 1 + 1 < w6.heap.size := blk_lt HI6.out.t
      have hp6 : wr.heap.size < w6.heap.size := blk_lt HAB6.out
      go_cut [56] from 25 to 57 (fun s56 wc => s56 = .bool false ∧ Aside0 (KnI b0 w wc))
      case first =>
        go_region_held3 (fun w' => w'.cell? ⟨b0 + 1, 0, none⟩ = some (.int .i64 2) ∧ w'.cell? ⟨b0 + 1, 1, none⟩ = some (.int .i64 10) ∧ w'.cell? ⟨wr.heap.size, 0, none⟩ = some (.int .i64 1) ∧ w'.cell? ⟨wr.heap.size, 1, none⟩ = some (.int .i64 0) ∧ w'.cell? ⟨wr.heap.size, 2, none⟩ = some (.int .i64 0) ∧ w'.cell? ⟨b0 + 1 + 1, 0, none⟩ = some (.int .i64 88))
          (first | go_keep | (refine ⟨?_, ?_, ?_, ?_, ?_, ?_⟩ <;> first | assumption | go_simp))
          ((go_at_call 36; refine (HLV1.out _ (HI6.out.step (by repeat (first | exact Below.refl _ _ | apply below_drew | apply pw_below_drewN)))).mono ?_; rintro e w7 ⟨rfl, hb7⟩
            have HB7 := Aside0.mk (below_step (show Below w6.heap.size w6 _ by repeat (first | exact Below.refl _ _ | apply below_drew | apply pw_below_drewN)) hb7)
            have HI7 := Aside0.mk (HI6.out.step HB7.out)
            have HAB7 := Aside0.mk (blk_below HAB6.out HB7.out)
            have p0 : w7.cell? ⟨wr.heap.size, 0, none⟩ = some (.int .i64 1) := (blk_cell HAB7.out 0).trans rfl
            have p1 : w7.cell? ⟨wr.heap.size, 1, none⟩ = some (.int .i64 0) := (blk_cell HAB7.out 1).trans rfl
            have p2 : w7.cell? ⟨wr.heap.size, 2, none⟩ = some (.int .i64 0) := (blk_cell HAB7.out 2).trans rfl
            have c0 : w7.cell? ⟨b0 + 1, 0, none⟩ = some (.int .i64 2) := (blk_cell HI7.out.c 0).trans rfl
            have c1 : w7.cell? ⟨b0 + 1, 1, none⟩ = some (.int .i64 10) := (blk_cell HI7.out.c 1).trans rfl
            have t0 : w7.cell? ⟨b0 + 1 + 1, 0, none⟩ = some (.int .i64 88) := (blk_cell HI7.out.t 0).trans rfl
            clear hb7
            dsimp only))
        all_goals
          go_wp2_with fail
          go_meet
          exact ⟨rfl, HI7⟩
      case rest =>
      obtain ⟨rfl, HI7⟩ := hcut
      go_wp2
      go_roundw
      case rel => exact ⟨1, by omega, by go_num, HI7⟩
      case measure => simp [intOf]
    · rw [show ((1 : Nat) : Int) = 1 from rfl]
      have z0 : wr.cell? ⟨b0 + 1 + 1 + 1, 3, none⟩ = some (.int .i64 2) := (blk_cell HI.out.p 3).trans rfl
      have z1 : wr.cell? ⟨b0 + 1 + 1 + 1, 4, none⟩ = some (.int .i64 0) := (blk_cell HI.out.p 4).trans rfl
      have z2 : wr.cell? ⟨b0 + 1 + 1 + 1, 5, none⟩ = some (.int .i64 0) := (blk_cell HI.out.p 5).trans rfl
      have k0 : wr.cell? ⟨b0 + 1, 0, none⟩ = some (.int .i64 2) := (blk_cell HI.out.c 0).trans rfl
      have k1 : wr.cell? ⟨b0 + 1, 1, none⟩ = some (.int .i64 10) := (blk_cell HI.out.c 1).trans rfl
      have k2 : b0 + 1 < wr.heap.size := blk_lt HI.out.c
      have HA := Aside0.mk (show KnI b0 w (wr.alloc (.cells #[.int .i64 2, .int .i64 0, .int .i64 0] 26)) from HI.out.step (below_alloc (Below.refl _ _) _))
      have HAB := Aside0.mk (blk_new wr (.cells #[.int .i64 2, .int .i64 0, .int .i64 0] 26))
      have HLC1 := Aside0.mk (cost_sea ex_sea (some ⟨b0, 0, none⟩) 4 _ HA.out.l (Nat.le_refl _) 2 0 0 rfl (by decide) (by decide))
      have HLV1 := Aside0.mk (fun W (hW : KnI b0 w W) => live_sea ex_sea (some ⟨b0, 0, none⟩) 4 W hW.l (Nat.le_refl _) 2 0 0 (by decide))
      rw [ex_l2] at HLC1 HLV1
      go_wp2_with (go_at_call 9; refine HLC1.out.mono ?_; rintro e w6 ⟨rfl, hb6⟩
                   have HI6 := Aside0.mk (HA.out.step hb6)
                   have HAB6 := Aside0.mk (blk_below HAB.out hb6)
                   have HB6 := Aside0.mk (below_step (below_alloc (Below.refl wr.heap.size wr) (.cells #[.int .i64 2, .int .i64 0, .int .i64 0] 26)) hb6)
                   clear hb6)
      have p0 : w6.cell? ⟨wr.heap.size, 0, none⟩ = some (.int .i64 2) := (blk_cell HAB6.out 0).trans rfl
      have p1 : w6.cell? ⟨wr.heap.size, 1, none⟩ = some (.int .i64 0) := (blk_cell HAB6.out 1).trans rfl
      have p2 : w6.cell? ⟨wr.heap.size, 2, none⟩ = some (.int .i64 0) := (blk_cell HAB6.out 2).trans rfl
      have c0 : w6.cell? ⟨b0 + 1, 0, none⟩ = some (.int .i64 2) := (blk_cell HI6.out.c 0).trans rfl
      have c1 : w6.cell? ⟨b0 + 1, 1, none⟩ = some (.int .i64 10) := (blk_cell HI6.out.c 1).trans rfl
      have t0 : w6.cell? ⟨b0 + 1 + 1, 1, none⟩ = some (.int .i64 40) := (blk_cell HI6.out.t 1).trans rfl
      have hc6 : b0 + 1 < w6.heap.size := blk_lt HI6.out.c
      have ht6 : b0 + 1 + 1 < w6.heap.size := blk_lt HI6.out.t
      have hp6 : wr.heap.size < w6.heap.size := blk_lt HAB6.out
      go_cut [56] from 25 to 57 (fun s56 wc => s56 = .bool false ∧ Aside0 (KnI b0 w wc))
      case first =>
        go_region_held3 (fun w' => w'.cell? ⟨b0 + 1, 0, none⟩ = some (.int .i64 2) ∧ w'.cell? ⟨b0 + 1, 1, none⟩ = some (.int .i64 10) ∧ w'.cell? ⟨wr.heap.size, 0, none⟩ = some (.int .i64 2) ∧ w'.cell? ⟨wr.heap.size, 1, none⟩ = some (.int .i64 0) ∧ w'.cell? ⟨wr.heap.size, 2, none⟩ = some (.int .i64 0) ∧ w'.cell? ⟨b0 + 1 + 1, 1, none⟩ = some (.int .i64 40))
          (first | go_keep | (refine ⟨?_, ?_, ?_, ?_, ?_, ?_⟩ <;> first | assumption | go_simp))
          ((go_at_call 36; refine (HLV1.out _ (HI6.out.step (by repeat (first | exact Below.refl _ _ | apply below_drew | apply pw_below_drewN)))).mono ?_; rintro e w7 ⟨rfl, hb7⟩
            have HB7 := Aside0.mk (below_step (show Below w6.heap.size w6 _ by repeat (first | exact Below.refl _ _ | apply below_drew | apply pw_below_drewN)) hb7)
            have HI7 := Aside0.mk (HI6.out.step HB7.out)
            have HAB7 := Aside0.mk (blk_below HAB6.out HB7.out)
            have p0 : w7.cell? ⟨wr.heap.size, 0, none⟩ = some (.int .i64 2) := (blk_cell HAB7.out 0).trans rfl
            have p1 : w7.cell? ⟨wr.heap.size, 1, none⟩ = some (.int .i64 0) := (blk_cell HAB7.out 1).trans rfl
            have p2 : w7.cell? ⟨wr.heap.size, 2, none⟩ = some (.int .i64 0) := (blk_cell HAB7.out 2).trans rfl
            have c0 : w7.cell? ⟨b0 + 1, 0, none⟩ = some (.int .i64 2) := (blk_cell HI7.out.c 0).trans rfl
            have c1 : w7.cell? ⟨b0 + 1, 1, none⟩ = some (.int .i64 10) := (blk_cell HI7.out.c 1).trans rfl
            have t0 : w7.cell? ⟨b0 + 1 + 1, 1, none⟩ = some (.int .i64 40) := (blk_cell HI7.out.t 1).trans rfl
            clear hb7
            dsimp only))
        all_goals
          go_wp2_with fail
          go_meet
          exact ⟨rfl, HI7⟩
      case rest =>
      obtain ⟨rfl, HI7⟩ := hcut
      go_wp2
      go_roundw
      case rel => exact ⟨2, by omega, by go_num, HI7⟩
      case measure => simp [intOf]
    · rw [show ((2 : Nat) : Int) = 2 from rfl]
      have z0 : wr.cell? ⟨b0 + 1 + 1 + 1, 6, none⟩ = some (.int .i64 3) := (blk_cell HI.out.p 6).trans rfl
      have z1 : wr.cell? ⟨b0 + 1 + 1 + 1, 7, none⟩ = some (.int .i64 5) := (blk_cell HI.out.p 7).trans rfl
      have z2 : wr.cell? ⟨b0 + 1 + 1 + 1, 8, none⟩ = some (.int .i64 0) := (blk_cell HI.out.p 8).trans rfl
      have k0 : wr.cell? ⟨b0 + 1, 0, none⟩ = some (.int .i64 2) := (blk_cell HI.out.c 0).trans rfl
      have k1 : wr.cell? ⟨b0 + 1, 1, none⟩ = some (.int .i64 10) := (blk_cell HI.out.c 1).trans rfl
      have k2 : b0 + 1 < wr.heap.size := blk_lt HI.out.c
      have HA := Aside0.mk (show KnI b0 w (wr.alloc (.cells #[.int .i64 3, .int .i64 5, .int .i64 0] 26)) from HI.out.step (below_alloc (Below.refl _ _) _))
      have HAB := Aside0.mk (blk_new wr (.cells #[.int .i64 3, .int .i64 5, .int .i64 0] 26))
      have HLC1 := Aside0.mk (cost_sea ex_sea (some ⟨b0, 0, none⟩) 4 _ HA.out.l (Nat.le_refl _) 3 5 0 rfl (by decide) (by decide))
      have HLV1 := Aside0.mk (fun W (hW : KnI b0 w W) => live_sea ex_sea (some ⟨b0, 0, none⟩) 4 W hW.l (Nat.le_refl _) 3 5 0 (by decide))
      rw [ex_l3] at HLC1 HLV1
      go_wp2_with (go_at_call 9; refine HLC1.out.mono ?_; rintro e w6 ⟨rfl, hb6⟩
                   have HI6 := Aside0.mk (HA.out.step hb6)
                   have HAB6 := Aside0.mk (blk_below HAB.out hb6)
                   have HB6 := Aside0.mk (below_step (below_alloc (Below.refl wr.heap.size wr) (.cells #[.int .i64 3, .int .i64 5, .int .i64 0] 26)) hb6)
                   clear hb6)
      have p0 : w6.cell? ⟨wr.heap.size, 0, none⟩ = some (.int .i64 3) := (blk_cell HAB6.out 0).trans rfl
      have p1 : w6.cell? ⟨wr.heap.size, 1, none⟩ = some (.int .i64 5) := (blk_cell HAB6.out 1).trans rfl
      have p2 : w6.cell? ⟨wr.heap.size, 2, none⟩ = some (.int .i64 0) := (blk_cell HAB6.out 2).trans rfl
      have c0 : w6.cell? ⟨b0 + 1, 0, none⟩ = some (.int .i64 2) := (blk_cell HI6.out.c 0).trans rfl
      have c1 : w6.cell? ⟨b0 + 1, 1, none⟩ = some (.int .i64 10) := (blk_cell HI6.out.c 1).trans rfl
      have t0 : w6.cell? ⟨b0 + 1 + 1, 2, none⟩ = some (.int .i64 56) := (blk_cell HI6.out.t 2).trans rfl
      have hc6 : b0 + 1 < w6.heap.size := blk_lt HI6.out.c
      have ht6 : b0 + 1 + 1 < w6.heap.size := blk_lt HI6.out.t
      have hp6 : wr.heap.size < w6.heap.size := blk_lt HAB6.out
      go_cut [56] from 25 to 57 (fun s56 wc => s56 = .bool false ∧ Aside0 (KnI b0 w wc))
      case first =>
        go_region_held3 (fun w' => w'.cell? ⟨b0 + 1, 0, none⟩ = some (.int .i64 2) ∧ w'.cell? ⟨b0 + 1, 1, none⟩ = some (.int .i64 10) ∧ w'.cell? ⟨wr.heap.size, 0, none⟩ = some (.int .i64 3) ∧ w'.cell? ⟨wr.heap.size, 1, none⟩ = some (.int .i64 5) ∧ w'.cell? ⟨wr.heap.size, 2, none⟩ = some (.int .i64 0) ∧ w'.cell? ⟨b0 + 1 + 1, 2, none⟩ = some (.int .i64 56))
          (first | go_keep | (refine ⟨?_, ?_, ?_, ?_, ?_, ?_⟩ <;> first | assumption | go_simp))
          ((go_at_call 36; refine (HLV1.out _ (HI6.out.step (by repeat (first | exact Below.refl _ _ | apply below_drew | apply pw_below_drewN)))).mono ?_; rintro e w7 ⟨rfl, hb7⟩
            have HB7 := Aside0.mk (below_step (show Below w6.heap.size w6 _ by repeat (first | exact Below.refl _ _ | apply below_drew | apply pw_below_drewN)) hb7)
            have HI7 := Aside0.mk (HI6.out.step HB7.out)
            have HAB7 := Aside0.mk (blk_below HAB6.out HB7.out)
            have p0 : w7.cell? ⟨wr.heap.size, 0, none⟩ = some (.int .i64 3) := (blk_cell HAB7.out 0).trans rfl
            have p1 : w7.cell? ⟨wr.heap.size, 1, none⟩ = some (.int .i64 5) := (blk_cell HAB7.out 1).trans rfl
            have p2 : w7.cell? ⟨wr.heap.size, 2, none⟩ = some (.int .i64 0) := (blk_cell HAB7.out 2).trans rfl
            have c0 : w7.cell? ⟨b0 + 1, 0, none⟩ = some (.int .i64 2) := (blk_cell HI7.out.c 0).trans rfl
            have c1 : w7.cell? ⟨b0 + 1, 1, none⟩ = some (.int .i64 10) := (blk_cell HI7.out.c 1).trans rfl
            have t0 : w7.cell? ⟨b0 + 1 + 1, 2, none⟩ = some (.int .i64 56) := (blk_cell HI7.out.t 2).trans rfl
            clear hb7
            dsimp only))
        all_goals
          go_wp2_with fail
          go_meet
          exact ⟨rfl, HI7⟩
      case rest =>
      obtain ⟨rfl, HI7⟩ := hcut
      go_wp2
      go_roundw
      case rel => exact ⟨3, by omega, by go_num, HI7⟩
      case measure => simp [intOf]
    · rw [show ((3 : Nat) : Int) = 3 from rfl]
      have z0 : wr.cell? ⟨b0 + 1 + 1 + 1, 9, none⟩ = some (.int .i64 4) := (blk_cell HI.out.p 9).trans rfl
      have z1 : wr.cell? ⟨b0 + 1 + 1 + 1, 10, none⟩ = some (.int .i64 0) := (blk_cell HI.out.p 10).trans rfl
      have z2 : wr.cell? ⟨b0 + 1 + 1 + 1, 11, none⟩ = some (.int .i64 1) := (blk_cell HI.out.p 11).trans rfl
      have k0 : wr.cell? ⟨b0 + 1, 0, none⟩ = some (.int .i64 2) := (blk_cell HI.out.c 0).trans rfl
      have k1 : wr.cell? ⟨b0 + 1, 1, none⟩ = some (.int .i64 10) := (blk_cell HI.out.c 1).trans rfl
      have k2 : b0 + 1 < wr.heap.size := blk_lt HI.out.c
      have HA := Aside0.mk (show KnI b0 w (wr.alloc (.cells #[.int .i64 4, .int .i64 0, .int .i64 1] 26)) from HI.out.step (below_alloc (Below.refl _ _) _))
      have HAB := Aside0.mk (blk_new wr (.cells #[.int .i64 4, .int .i64 0, .int .i64 1] 26))
      have HLC1 := Aside0.mk (cost_sea ex_sea (some ⟨b0, 0, none⟩) 4 _ HA.out.l (Nat.le_refl _) 4 0 1 rfl (by decide) (by decide))
      have HLV1 := Aside0.mk (fun W (hW : KnI b0 w W) => live_sea ex_sea (some ⟨b0, 0, none⟩) 4 W hW.l (Nat.le_refl _) 4 0 1 (by decide))
      rw [ex_l4] at HLC1 HLV1
      go_wp2_with (go_at_call 9; refine HLC1.out.mono ?_; rintro e w6 ⟨rfl, hb6⟩
                   have HI6 := Aside0.mk (HA.out.step hb6)
                   have HAB6 := Aside0.mk (blk_below HAB.out hb6)
                   have HB6 := Aside0.mk (below_step (below_alloc (Below.refl wr.heap.size wr) (.cells #[.int .i64 4, .int .i64 0, .int .i64 1] 26)) hb6)
                   clear hb6)
      have p0 : w6.cell? ⟨wr.heap.size, 0, none⟩ = some (.int .i64 4) := (blk_cell HAB6.out 0).trans rfl
      have p1 : w6.cell? ⟨wr.heap.size, 1, none⟩ = some (.int .i64 0) := (blk_cell HAB6.out 1).trans rfl
      have p2 : w6.cell? ⟨wr.heap.size, 2, none⟩ = some (.int .i64 1) := (blk_cell HAB6.out 2).trans rfl
      have c0 : w6.cell? ⟨b0 + 1, 0, none⟩ = some (.int .i64 2) := (blk_cell HI6.out.c 0).trans rfl
      have c1 : w6.cell? ⟨b0 + 1, 1, none⟩ = some (.int .i64 10) := (blk_cell HI6.out.c 1).trans rfl
      have t0 : w6.cell? ⟨b0 + 1 + 1, 3, none⟩ = some (.int .i64 78) := (blk_cell HI6.out.t 3).trans rfl
      have hc6 : b0 + 1 < w6.heap.size := blk_lt HI6.out.c
      have ht6 : b0 + 1 + 1 < w6.heap.size := blk_lt HI6.out.t
      have hp6 : wr.heap.size < w6.heap.size := blk_lt HAB6.out
      go_cut [56] from 25 to 57 (fun s56 wc => s56 = .bool false ∧ Aside0 (KnI b0 w wc))
      case first =>
        go_region_held3 (fun w' => w'.cell? ⟨b0 + 1, 0, none⟩ = some (.int .i64 2) ∧ w'.cell? ⟨b0 + 1, 1, none⟩ = some (.int .i64 10) ∧ w'.cell? ⟨wr.heap.size, 0, none⟩ = some (.int .i64 4) ∧ w'.cell? ⟨wr.heap.size, 1, none⟩ = some (.int .i64 0) ∧ w'.cell? ⟨wr.heap.size, 2, none⟩ = some (.int .i64 1) ∧ w'.cell? ⟨b0 + 1 + 1, 3, none⟩ = some (.int .i64 78))
          (first | go_keep | (refine ⟨?_, ?_, ?_, ?_, ?_, ?_⟩ <;> first | assumption | go_simp))
          ((go_at_call 36; refine (HLV1.out _ (HI6.out.step (by repeat (first | exact Below.refl _ _ | apply below_drew | apply pw_below_drewN)))).mono ?_; rintro e w7 ⟨rfl, hb7⟩
            have HB7 := Aside0.mk (below_step (show Below w6.heap.size w6 _ by repeat (first | exact Below.refl _ _ | apply below_drew | apply pw_below_drewN)) hb7)
            have HI7 := Aside0.mk (HI6.out.step HB7.out)
            have HAB7 := Aside0.mk (blk_below HAB6.out HB7.out)
            have p0 : w7.cell? ⟨wr.heap.size, 0, none⟩ = some (.int .i64 4) := (blk_cell HAB7.out 0).trans rfl
            have p1 : w7.cell? ⟨wr.heap.size, 1, none⟩ = some (.int .i64 0) := (blk_cell HAB7.out 1).trans rfl
            have p2 : w7.cell? ⟨wr.heap.size, 2, none⟩ = some (.int .i64 1) := (blk_cell HAB7.out 2).trans rfl
            have c0 : w7.cell? ⟨b0 + 1, 0, none⟩ = some (.int .i64 2) := (blk_cell HI7.out.c 0).trans rfl
            have c1 : w7.cell? ⟨b0 + 1, 1, none⟩ = some (.int .i64 10) := (blk_cell HI7.out.c 1).trans rfl
            have t0 : w7.cell? ⟨b0 + 1 + 1, 3, none⟩ = some (.int .i64 78) := (blk_cell HI7.out.t 3).trans rfl
            clear hb7
            dsimp only))
        all_goals
          go_wp2_with fail
          go_meet
          exact ⟨rfl, HI7⟩
      case rest =>
      obtain ⟨rfl, HI7⟩ := hcut
      go_wp2
      go_roundw
      case rel => exact ⟨4, by omega, by go_num, HI7⟩
      case measure => simp [intOf]
  · obtain rfl : k = 4 := by omega
    rw [show ((4 : Nat) : Int) = 4 from rfl]
    have c0 : wr.cell? ⟨b0 + 1, 0, none⟩ = some (.int .i64 2) := (blk_cell HI.out.c 0).trans rfl
    have c1 : wr.cell? ⟨b0 + 1, 1, none⟩ = some (.int .i64 10) := (blk_cell HI.out.c 1).trans rfl
    have hc6 : b0 + 1 < wr.heap.size := blk_lt HI.out.c
    have HLE := Aside0.mk (exLst (some ⟨b0, 0, none⟩) 4 wr HI.out.l (Nat.le_refl _))
    go_wp2_with (first
      | (go_at_call 11; refine HLE.out.mono ?_; rintro e w8 ⟨Ak, ck, rfl, hck, hCk, hb8⟩
         have HB8 := Aside0.mk (below_step HI.out.bel hb8)
         have HC8 := Aside0.mk hCk
         have HA9 := Aside0.mk (show Below w8.heap.size w8 (w8.alloc (.cells #[.int .i64 0] 3)) from below_alloc (Below.refl _ _) _)
         clear hCk hb8)
      | (go_at_call 40; refine (same_sea Ak (some ⟨w8.heap.size, 0, none⟩) ck 1 [0] _ (Kd.C_below HC8.out HA9.out) hck (litI w8) (Nat.le_refl _) (by decide)).mono ?_; rintro e w9 ⟨rfl, hb9⟩
         have HB9 := Aside0.mk (below_step (below_step HB8.out HA9.out) hb9)
         clear hb9)
      | (go_at_call 15; refine (seasons31_any (some ⟨w9.heap.size, 0, none⟩) 4 exX 2 10 5 1 _ (litX w9 86) (by decide) (by unfold Bytes3 exX; decide) (by decide) (by decide) (by decide) (by decide) (by decide) (by decide) (by decide) (by decide)).mono ?_; rintro e w10 ⟨rfl, hb10⟩
         have HB10 := Aside0.mk (below_step HB9.out (below_step (below_alloc (Below.refl w9.heap.size w9) (.cells #[.int .u8 1, .int .u8 0, .int .u8 1, .int .u8 2, .int .u8 1, .int .u8 2, .int .u8 1, .int .u8 2, .int .u8 0, .int .u8 2, .int .u8 5, .int .u8 0] 86)) hb10))
         clear hb10))
    go_ret
    exact ⟨rfl, HB10.out⟩
end Go.Proofs.Ytdkfmbammdmohaa.PPolicyCosts

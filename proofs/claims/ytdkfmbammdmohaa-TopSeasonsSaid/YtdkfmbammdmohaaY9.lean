/- The walk of seasons31. -/
import Derived.Test.YtdkfmbammdmohaaY8
import Derived.Deep.RegionWith
namespace Go.Proofs.Ytdkfmbammdmohaa.PPolicyCosts
open Go.RowKit Go.Proofs.YtdkfmbammdmohaaW.PrintWords Go.Proofs.YtdkfmbammdmohaaW.PrintLast Go.Proofs.YtdkfmbammdmohaaW.PrintMore
open Go.Proofs.YtdkfmbammdmohaaM Go.Proofs.YtdkfmbammdmohaaS
attribute [local go_sem] max2_int min2_int max_two min_two max_three min_three max_four min_four
set_option linter.unusedVariables false
set_option linter.unusedSimpArgs false

theorem uses_sea (Au : Option Addr) (cu : Nat) (xs : List S86) (hold win : Int) (W : World) (hC : Kd.C k86 W Au xs.length xs) (hc : xs.length ≤ cu) (hb : Bytes3 xs) :
    Calls Try.prog 34 #[.agg #[.slice Au xs.length cu, .int .u8 hold, .int .u8 win]] W fun e w' => Below W.heap.size W w' ∧ ∃ l en A c, e = .returned (.tuple #[.slice A (l : List S73).length c, .int .i64 en]) ∧ l.length ≤ c ∧ Kd.C k73 w' A l.length l ∧
      ∀ hold win age n : Int, 0 ≤ hold → hold < 8 → 0 ≤ win → win < 40 → 0 ≤ age → age < 12 → 0 ≤ n → n < 4 → SeaF l (gapsR l l.length) en hold win age n :=
  (uses31_any Au cu xs hold win W hC hc hb).mono fun e w' h => by
    obtain ⟨h1, m, A, c, h2, h3, _, h4, h5, h6⟩ := h
    have hlen := (usesR_bd xs m).len
    refine ⟨h1, (usesR xs m).l, (usesR xs m).e, A, c, by rw [hlen]; exact h4, by omega, by rw [hlen]; exact h6, fun hold win age n a1 a2 a3 a4 a5 a6 a7 a8 => sea_of xs m h3 hold win age n a1 a2 a3 a4 a5 a6 a7 a8⟩

theorem wrap_pow (i : Nat) (h : i ≤ 60) : wrap64 ((2 : Int) ^ i) = 2 ^ i := by
  have h2 : (2 : Int) ^ i = ((2 ^ i : Nat) : Int) := by simp
  have h3 : 2 ^ i ≤ 2 ^ 60 := Nat.pow_le_pow_right (by decide) h
  rw [h2]
  obtain ⟨z, hz⟩ : ∃ z, 2 ^ i = z := ⟨_, rfl⟩
  rw [hz] at h3 ⊢
  unfold wrap64
  omega
theorem pow_256 (i : Nat) (h : i ≤ 8) : (2 : Int) ^ i ≤ 256 := by
  have h2 : (2 : Int) ^ i = ((2 ^ i : Nat) : Int) := by simp
  have h3 : 2 ^ i ≤ 2 ^ 8 := Nat.pow_le_pow_right (by decide) h
  rw [h2]
  omega
/-- What lies in memory beside the trace. -/
structure SeaI (A Ag : Option Addr) (l : List S73) (g : List S52) (hold win : Int) (bc : Nat) (w wr : World) : Prop where
  bel : Below w.heap.size w wr
  o : w.heap.size ≤ bc
  c : wr.heap[bc]? = some (.cells #[.int .i64 hold, .int .i64 win] 24 (0, 0))
  l : Kd.C k73 wr A l.length l
  g : Kd.C k52 wr Ag g.length g
theorem SeaI.step {A Ag : Option Addr} {l : List S73} {g : List S52} {hold win : Int} {bc : Nat} {w wr wq : World} (h : SeaI A Ag l g hold win bc w wr) (hb : Below wr.heap.size wr wq) : SeaI A Ag l g hold win bc w wq :=
  ⟨below_step h.bel hb, h.o, blk_below h.c hb, Kd.C_below h.l hb, Kd.C_below h.g hb⟩
theorem SeaI.hc {A Ag : Option Addr} {l : List S73} {g : List S52} {hold win : Int} {bc : Nat} {w wr : World} (h : SeaI A Ag l g hold win bc w wr) : wr.cell? ⟨bc, 0, none⟩ = some (.int .i64 hold) ∧ wr.cell? ⟨bc, 1, none⟩ = some (.int .i64 win) ∧ bc < wr.heap.size :=
  ⟨(blk_cell h.c 0).trans rfl, (blk_cell h.c 1).trans rfl, blk_lt h.c⟩

theorem bestR_succ (hold win base : Int) (g : List S52) (b : Nat) : bestR hold win base g (b + 1) = if bestR hold win base g b < 0 ∨ keepC hold win g (b : Int) base g.length < bestR hold win base g b then keepC hold win g (b : Int) base g.length else bestR hold win base g b := rfl
open Classical in
theorem cheapR_succ (hold win base n : Int) (g : List S52) (b : Nat) : cheapR hold win base n g (b + 1) = if FitsB hold win n g b ∧ ((cheapR hold win base n g b).1 < 0 ∨ keepC hold win g (b : Int) base g.length < (cheapR hold win base n g b).1 ∨ (keepC hold win g (b : Int) base g.length = (cheapR hold win base n g b).1 ∧ lexL (lstU (b : Int) 8) (cheapR hold win base n g b).2 = true)) then (keepC hold win g (b : Int) base g.length, lstU (b : Int) 8) else cheapR hold win base n g b := by rw [cheapR]
/-- one step of the loop over all sets -/
theorem step_best {hold win base : Int} {g : List S52} {b : Nat} {kc bb : Int} (h1 : keepC hold win g (b : Int) base g.length = kc) (h2 : bestR hold win base g b = bb) : (bb < 0 → bestR hold win base g (b + 1) = kc) ∧ (kc < bb → bestR hold win base g (b + 1) = kc) ∧ (¬ bb < 0 → ¬ kc < bb → bestR hold win base g (b + 1) = bb) := by
  subst h1 h2
  exact ⟨fun h => by rw [bestR_succ, if_pos (.inl h)], fun h => by rw [bestR_succ, if_pos (.inr h)], fun h h' => by rw [bestR_succ, if_neg (by omega)]⟩
theorem step_cheap {hold win base n : Int} {g : List S52} {b : Nat} {kc ch wb an : Int} {cl : List Int} {fi : Bool} (h1 : keepC hold win g (b : Int) base g.length = kc) (h2 : cheapR hold win base n g b = (ch, cl)) (h3 : worthB hold win g = wb) (h4 : Go.bits .andNot .i64 (b : Int) wb = an) (h5 : decide (mostN g (b : Int) g.length ≤ n) = fi) (w0 : 0 ≤ wb) (w1 : wb < 256) (hb : b < 256) :
    (an ≠ 0 → cheapR hold win base n g (b + 1) = (ch, cl)) ∧ (fi = false → cheapR hold win base n g (b + 1) = (ch, cl)) ∧
    (an = 0 → fi = true → ch < 0 → cheapR hold win base n g (b + 1) = (kc, lstU (b : Int) 8)) ∧ (an = 0 → fi = true → kc < ch → cheapR hold win base n g (b + 1) = (kc, lstU (b : Int) 8)) ∧
    (an = 0 → fi = true → kc = ch → lexL (lstU (b : Int) 8) cl = true → cheapR hold win base n g (b + 1) = (kc, lstU (b : Int) 8)) ∧ (¬ ch < 0 → ¬ kc < ch → lexL (lstU (b : Int) 8) cl = false → cheapR hold win base n g (b + 1) = (ch, cl)) ∧ (¬ ch < 0 → ¬ kc < ch → kc ≠ ch → cheapR hold win base n g (b + 1) = (ch, cl)) := by
  have hf : FitsB hold win n g b ↔ an = 0 ∧ fi = true := by
    unfold FitsB
    rw [h3, ← andNot_nil (b : Int) wb (by omega) (by omega) w0 w1, h4, ← h5]
    simp
  have hs := cheapR_succ hold win base n g b
  rw [h1, h2] at hs
  simp only at hs
  refine ⟨fun a => ?_, fun a => ?_, fun a b c => ?_, fun a b c => ?_, fun a b c d => ?_, fun a b c => ?_, fun a b c => ?_⟩
  · rw [hs, if_neg (fun h => a (hf.1 h.1).1)]
  · rw [hs, if_neg (fun h => by have := (hf.1 h.1).2; rw [a] at this; cases this)]
  · rw [hs, if_pos ⟨hf.2 ⟨a, b⟩, .inl c⟩]
  · rw [hs, if_pos ⟨hf.2 ⟨a, b⟩, .inr (.inl c)⟩]
  · rw [hs, if_pos ⟨hf.2 ⟨a, b⟩, .inr (.inr ⟨c, d⟩)⟩]
  · rw [hs, if_neg (fun h => by rcases h.2 with h | h | h; exact a h; exact b h; rw [c] at h; cases h.2)]
  · rw [hs, if_neg (fun h => by rcases h.2 with h | h | h; exact a h; exact b h; exact c h.1)]
theorem step_tune {C : Int → Int} {a : Nat} {t p cv : Int} (h1 : C (a : Int) = cv) (h2 : tuneL C a = (t, p)) : (p < 0 → tuneL C (a + 1) = ((a : Int), cv)) ∧ (cv < p → tuneL C (a + 1) = ((a : Int), cv)) ∧ (¬ p < 0 → ¬ cv < p → tuneL C (a + 1) = (t, p)) := by
  subst h1
  have hs : tuneL C (a + 1) = if (tuneL C a).2 < 0 ∨ C (a : Int) < (tuneL C a).2 then ((a : Int), C (a : Int)) else tuneL C a := rfl
  rw [h2] at hs
  exact ⟨fun h => by rw [hs, if_pos (.inl h)], fun h => by rw [hs, if_pos (.inr h)], fun h h' => by rw [hs, if_neg (by simp only; omega)]⟩
set_option maxRecDepth 100000 in
set_option maxHeartbeats 8000000 in
theorem seasons31_any (Au : Option Addr) (cu : Nat) (xs : List S86) (hold8 win8 age8 most8 : Int) (w : World) (hC : Kd.C k86 w Au xs.length xs) (hc : xs.length ≤ cu) (hb : Bytes3 xs)
    (a0 : 0 ≤ hold8) (a1 : hold8 < 256) (b0 : 0 ≤ win8) (b1 : win8 < 256) (c0 : 0 ≤ age8) (c1 : age8 < 256) (d0 : 0 ≤ most8) (d1 : most8 < 256) :
    Calls Try.prog 15 #[.agg #[.slice Au xs.length cu, .int .u8 hold8, .int .u8 win8], .int .u8 age8, .int .u8 most8] w fun e w' => e = .returned (.bool true) ∧ Below w.heap.size w w' := by
  have HX := Aside0.mk (show Below w.heap.size w (w.alloc (.cells #[.slice Au xs.length cu, .int .u8 hold8, .int .u8 win8] 44)) from below_alloc (Below.refl _ _) _)
  have HXB := Aside0.mk (blk_new w (.cells #[.slice Au xs.length cu, .int .u8 hold8, .int .u8 win8] 44))
  have HU := Aside0.mk (uses_sea Au cu xs hold8 win8 _ (Kd.C_below hC HX.out) hc hb)
  clear hC hb
  go_enter Try.func15, Try.ntmps15
  go_wp2_with (first
    | (go_at_call 34; refine HU.out.mono ?_; rintro e w1 ⟨hb1, l, en, A, c, rfl, hlc, hCl, hF⟩
       have HB1 := Aside0.mk (below_step HX.out hb1)
       have HL1 := Aside0.mk hCl
       have hX1 := blk_below HXB.out hb1
       have x1 : w1.cell? ⟨w.heap.size, 1, none⟩ = some (.int .u8 hold8) := (blk_cell hX1 1).trans rfl
       have x2 : w1.cell? ⟨w.heap.size, 2, none⟩ = some (.int .u8 win8) := (blk_cell hX1 2).trans rfl
       have hz1 : w.heap.size < w1.heap.size := blk_lt hX1
       have HF := Aside0.mk (hF (hold8 % 8) (win8 % 40) (age8 % 12) (most8 % 4) (by omega) (by omega) (by omega) (by omega) (by omega) (by omega) (by omega) (by omega))
       have hll : l.length ≤ 8 := HF.out.len
       have HW2 := Aside0.mk (show Below w1.heap.size w1 (w1.alloc (.cells #[.int .i64 (hold8 % 8), .int .i64 (win8 % 40)] 24)) from below_alloc (Below.refl _ _) _)
       have HC2 := Aside0.mk (blk_new w1 (.cells #[.int .i64 (hold8 % 8), .int .i64 (win8 % 40)] 24))
       have ho1 : w.heap.size ≤ w1.heap.size := by omega
       have HO1 := Aside0.mk ho1
       clear hb1 hCl hF hX1)
    | (go_at_call 35; refine (gaps31_any A c l _ (Kd.C_below HL1.out HW2.out) hlc (by omega)).mono ?_; rintro e w3 ⟨hb3, Ag, cg, rfl, hcg, hCg⟩
       have HI3 := Aside0.mk (show SeaI A Ag l (gapsR l l.length) (hold8 % 8) (win8 % 40) w1.heap.size w w3 from ⟨below_step (below_step HB1.out HW2.out) hb3, HO1.out, blk_below HC2.out hb3, Kd.C_below (Kd.C_below HL1.out HW2.out) hb3, hCg⟩)
       have hgl : (gapsR l l.length).length ≤ 8 := HF.out.few.len
       clear hb3 hCg)
    | (go_at_call 17; refine (gaps_sea HF.out A c _ HI3.out.l hlc).mono ?_; rintro e w4 ⟨hb4, At, ct, rfl, hct, hCt⟩
       have HI4 := Aside0.mk (HI3.out.step hb4)
       have HT4 := Aside0.mk hCt
       clear hb4 hCt))
  generalize gapsR l l.length = g at *
  generalize hold8 % 8 = hold at *
  generalize win8 % 40 = win at *
  clear x1 x2 hz1 HU HX HXB HW2 HC2 HO1 HL1 HB1 a0 a1 b0 b1
  generalize w1.heap.size = bc at *
  go_loopw [13] (fun v13 wr => ∃ i : Nat, i ≤ g.length ∧ v13 = .int .i64 i ∧ Aside0 (SeaI A Ag l g hold win bc w wr ∧ Kd.C k52 wr At g.length g)) (fun v13 wr => g.length - (intOf v13).toNat)
  case atStart => exact ⟨0, Nat.zero_le _, rfl, ⟨HI4.out, HT4.out⟩⟩
  case round =>
    clear HI3 HI4 HT4
    obtain ⟨i, hi, rfl, HI⟩ := hrel
    by_cases hlt : i < g.length
    · obtain ⟨at1, rfl, x0, x1, x2⟩ := at_T52 HI.out.2 (i : Int) (by omega) (by omega)
      obtain ⟨ag1, rfl, y0, y1, y2⟩ := at_T52 HI.out.1.g (i : Int) (by omega) (by omega)
      simp only [Int.toNat_natCast] at x0 x1 x2 y0 y1 y2
      generalize rd_T52 g (i : Int) = u at *
      go_wp2
      go_region
      go_wp2
      go_roundw
      case rel => exact ⟨i + 1, by omega, by go_num, ⟨HI.out.1.step (below_drew (Below.refl _ _)), Kd.C_below HI.out.2 (below_drew (Below.refl _ _))⟩⟩
      case measure => simp [intOf]; omega
    · obtain rfl : i = g.length := by omega
      go_wp2
      generalize age8 % 12 = age at *
      generalize most8 % 4 = n at *
      obtain ⟨w5, hw5⟩ : ∃ w5, w5 = wr.alloc (.cells #[.int .i64 1, .int .i64 0, .int .i64 0, .int .i64 2, .int .i64 0, .int .i64 0, .int .i64 3, .int .i64 age, .int .i64 0, .int .i64 4, .int .i64 0, .int .i64 n] 26) := ⟨_, rfl⟩
      rw [← hw5]
      have HI5 := Aside0.mk (show SeaI A Ag l g hold win bc w w5 by rw [hw5]; exact HI.out.1.step (below_alloc (Below.refl _ _) _))
      have HP5 := Aside0.mk (show w5.heap[wr.heap.size]? = some (.cells #[.int .i64 1, .int .i64 0, .int .i64 0, .int .i64 2, .int .i64 0, .int .i64 0, .int .i64 3, .int .i64 age, .int .i64 0, .int .i64 4, .int .i64 0, .int .i64 n] 26 (0, 0)) by rw [hw5]; exact blk_new wr _)
      have hba : bc < wr.heap.size := HI.out.1.hc.2.2
      generalize wr.heap.size = ba at *
      clear hw5 HI hlt hi c0 c1 d0 d1
      have hp3 : polOK 3 age 0 = true := by
        have := HF.out.a0
        have := HF.out.a1
        simp [polOK, outB]
        omega
      have hp4 : polOK 4 0 n = true := by
        have := HF.out.n0
        have := HF.out.n1
        simp [polOK, outB]
        omega
      have HP3 := Aside0.mk hp3
      have HP4 := Aside0.mk hp4
      clear hp3 hp4
      have HLC := Aside0.mk (fun W (hW : SeaI A Ag l g hold win bc w W) => fun kind ag most (h1 : polOK kind ag most = true) (h2 : 0 ≤ ag) (h3 : 0 ≤ most) => cost_sea HF.out A c W hW.l hlc kind ag most h1 h2 h3)
      have HLV := Aside0.mk (fun W (hW : SeaI A Ag l g hold win bc w W) => fun kind ag most (h3 : 0 ≤ most) => live_sea HF.out A c W hW.l hlc kind ag most h3)
      go_loopw [97] (fun v97 wr => ∃ k : Nat, k ≤ 4 ∧ v97 = .int .i64 k ∧ Aside0 (SeaI A Ag l g hold win bc w wr ∧ wr.heap[ba]? = some (.cells #[.int .i64 1, .int .i64 0, .int .i64 0, .int .i64 2, .int .i64 0, .int .i64 0, .int .i64 3, .int .i64 age, .int .i64 0, .int .i64 4, .int .i64 0, .int .i64 n] 26 (0, 0)))) (fun v97 wr => 4 - (intOf v97).toNat)
      case atStart => exact ⟨0, by omega, rfl, ⟨HI5.out, HP5.out⟩⟩
      case round =>
        clear HI5 HP5
        obtain ⟨k, hk, rfl, HI⟩ := hrel
        have hz := HI.out.1.hc
        have hbz : ba < wr.heap.size := blk_lt HI.out.2
        by_cases hlt : k < 4
        · rcases (by omega : k = 0 ∨ k = 1 ∨ k = 2 ∨ k = 3) with rfl | rfl | rfl | rfl
--DEV all_goals sorry
          · rw [show ((0 : Nat) : Int) = 0 from rfl]
            have z0 : wr.cell? ⟨ba, 0, none⟩ = some (.int .i64 1) := (blk_cell HI.out.2 0).trans rfl
            have z1 : wr.cell? ⟨ba, 1, none⟩ = some (.int .i64 0) := (blk_cell HI.out.2 1).trans rfl
            have z2 : wr.cell? ⟨ba, 2, none⟩ = some (.int .i64 0) := (blk_cell HI.out.2 2).trans rfl
            have HA := Aside0.mk (show SeaI A Ag l g hold win bc w (wr.alloc (.cells #[.int .i64 1, .int .i64 0, .int .i64 0] 26)) from HI.out.1.step (below_alloc (Below.refl _ _) _))
            have HAB := Aside0.mk (blk_new wr (.cells #[.int .i64 1, .int .i64 0, .int .i64 0] 26))
            have HLC1 := Aside0.mk (HLC.out _ HA.out 1 0 0 rfl (by decide) (by decide))
            have HLV1 := Aside0.mk (fun W hW => HLV.out W hW 1 0 0 (by decide))
            generalize (liveR l hold win 1 0 0 en.toNat).cost = v at *
            go_wp2_with (first
              | (go_at_call 9; refine HLC1.out.mono ?_; rintro e w6 ⟨rfl, hb6⟩
                 have HI6 := Aside0.mk (HA.out.step hb6)
                 have hAB := blk_below HAB.out hb6
                 have p0 : w6.cell? ⟨wr.heap.size, 0, none⟩ = some (.int .i64 1) := (blk_cell hAB 0).trans rfl
                 have p1 : w6.cell? ⟨wr.heap.size, 1, none⟩ = some (.int .i64 0) := (blk_cell hAB 1).trans rfl
                 have p2 : w6.cell? ⟨wr.heap.size, 2, none⟩ = some (.int .i64 0) := (blk_cell hAB 2).trans rfl
                 have hz6 := HI6.out.hc
                 have hp6 : wr.heap.size < w6.heap.size := blk_lt hAB
                 have HB6 := Aside0.mk (below_step (below_alloc (Below.refl wr.heap.size wr) (.cells #[.int .i64 1, .int .i64 0, .int .i64 0] 26)) hb6)
                 clear hAB hb6)
              | (go_at_call 36; refine (HLV1.out _ HI6.out).mono ?_; rintro e w7 ⟨rfl, hb7⟩))
            go_roundw
            case rel => exact ⟨1, by omega, by go_num, ⟨HI6.out.step hb7, blk_below HI.out.2 (below_step HB6.out hb7)⟩⟩
            case measure => simp [intOf]
          · rw [show ((1 : Nat) : Int) = 1 from rfl]
            have z0 : wr.cell? ⟨ba, 3, none⟩ = some (.int .i64 2) := (blk_cell HI.out.2 3).trans rfl
            have z1 : wr.cell? ⟨ba, 4, none⟩ = some (.int .i64 0) := (blk_cell HI.out.2 4).trans rfl
            have z2 : wr.cell? ⟨ba, 5, none⟩ = some (.int .i64 0) := (blk_cell HI.out.2 5).trans rfl
            have HA := Aside0.mk (show SeaI A Ag l g hold win bc w (wr.alloc (.cells #[.int .i64 2, .int .i64 0, .int .i64 0] 26)) from HI.out.1.step (below_alloc (Below.refl _ _) _))
            have HAB := Aside0.mk (blk_new wr (.cells #[.int .i64 2, .int .i64 0, .int .i64 0] 26))
            have HLC1 := Aside0.mk (HLC.out _ HA.out 2 0 0 rfl (by decide) (by decide))
            have HLV1 := Aside0.mk (fun W hW => HLV.out W hW 2 0 0 (by decide))
            generalize (liveR l hold win 2 0 0 en.toNat).cost = v at *
            go_wp2_with (first
              | (go_at_call 9; refine HLC1.out.mono ?_; rintro e w6 ⟨rfl, hb6⟩
                 have HI6 := Aside0.mk (HA.out.step hb6)
                 have hAB := blk_below HAB.out hb6
                 have p0 : w6.cell? ⟨wr.heap.size, 0, none⟩ = some (.int .i64 2) := (blk_cell hAB 0).trans rfl
                 have p1 : w6.cell? ⟨wr.heap.size, 1, none⟩ = some (.int .i64 0) := (blk_cell hAB 1).trans rfl
                 have p2 : w6.cell? ⟨wr.heap.size, 2, none⟩ = some (.int .i64 0) := (blk_cell hAB 2).trans rfl
                 have hz6 := HI6.out.hc
                 have hp6 : wr.heap.size < w6.heap.size := blk_lt hAB
                 have HB6 := Aside0.mk (below_step (below_alloc (Below.refl wr.heap.size wr) (.cells #[.int .i64 2, .int .i64 0, .int .i64 0] 26)) hb6)
                 clear hAB hb6)
              | (go_at_call 36; refine (HLV1.out _ HI6.out).mono ?_; rintro e w7 ⟨rfl, hb7⟩))
            go_roundw
            case rel => exact ⟨2, by omega, by go_num, ⟨HI6.out.step hb7, blk_below HI.out.2 (below_step HB6.out hb7)⟩⟩
            case measure => simp [intOf]
          · rw [show ((2 : Nat) : Int) = 2 from rfl]
            have z0 : wr.cell? ⟨ba, 6, none⟩ = some (.int .i64 3) := (blk_cell HI.out.2 6).trans rfl
            have z1 : wr.cell? ⟨ba, 7, none⟩ = some (.int .i64 age) := (blk_cell HI.out.2 7).trans rfl
            have z2 : wr.cell? ⟨ba, 8, none⟩ = some (.int .i64 0) := (blk_cell HI.out.2 8).trans rfl
            have HA := Aside0.mk (show SeaI A Ag l g hold win bc w (wr.alloc (.cells #[.int .i64 3, .int .i64 age, .int .i64 0] 26)) from HI.out.1.step (below_alloc (Below.refl _ _) _))
            have HAB := Aside0.mk (blk_new wr (.cells #[.int .i64 3, .int .i64 age, .int .i64 0] 26))
            have HLC1 := Aside0.mk (HLC.out _ HA.out 3 age 0 HP3.out HF.out.a0 (by decide))
            have HLV1 := Aside0.mk (fun W hW => HLV.out W hW 3 age 0 (by decide))
            generalize (liveR l hold win 3 age 0 en.toNat).cost = v at *
            go_wp2_with (first
              | (go_at_call 9; refine HLC1.out.mono ?_; rintro e w6 ⟨rfl, hb6⟩
                 have HI6 := Aside0.mk (HA.out.step hb6)
                 have hAB := blk_below HAB.out hb6
                 have p0 : w6.cell? ⟨wr.heap.size, 0, none⟩ = some (.int .i64 3) := (blk_cell hAB 0).trans rfl
                 have p1 : w6.cell? ⟨wr.heap.size, 1, none⟩ = some (.int .i64 age) := (blk_cell hAB 1).trans rfl
                 have p2 : w6.cell? ⟨wr.heap.size, 2, none⟩ = some (.int .i64 0) := (blk_cell hAB 2).trans rfl
                 have hz6 := HI6.out.hc
                 have hp6 : wr.heap.size < w6.heap.size := blk_lt hAB
                 have HB6 := Aside0.mk (below_step (below_alloc (Below.refl wr.heap.size wr) (.cells #[.int .i64 3, .int .i64 age, .int .i64 0] 26)) hb6)
                 clear hAB hb6)
              | (go_at_call 36; refine (HLV1.out _ HI6.out).mono ?_; rintro e w7 ⟨rfl, hb7⟩))
            go_roundw
            case rel => exact ⟨3, by omega, by go_num, ⟨HI6.out.step hb7, blk_below HI.out.2 (below_step HB6.out hb7)⟩⟩
            case measure => simp [intOf]
          · rw [show ((3 : Nat) : Int) = 3 from rfl]
            have z0 : wr.cell? ⟨ba, 9, none⟩ = some (.int .i64 4) := (blk_cell HI.out.2 9).trans rfl
            have z1 : wr.cell? ⟨ba, 10, none⟩ = some (.int .i64 0) := (blk_cell HI.out.2 10).trans rfl
            have z2 : wr.cell? ⟨ba, 11, none⟩ = some (.int .i64 n) := (blk_cell HI.out.2 11).trans rfl
            have HA := Aside0.mk (show SeaI A Ag l g hold win bc w (wr.alloc (.cells #[.int .i64 4, .int .i64 0, .int .i64 n] 26)) from HI.out.1.step (below_alloc (Below.refl _ _) _))
            have HAB := Aside0.mk (blk_new wr (.cells #[.int .i64 4, .int .i64 0, .int .i64 n] 26))
            have HLC1 := Aside0.mk (HLC.out _ HA.out 4 0 n HP4.out (by decide) HF.out.n0)
            have HLV1 := Aside0.mk (fun W hW => HLV.out W hW 4 0 n HF.out.n0)
            generalize (liveR l hold win 4 0 n en.toNat).cost = v at *
            go_wp2_with (first
              | (go_at_call 9; refine HLC1.out.mono ?_; rintro e w6 ⟨rfl, hb6⟩
                 have HI6 := Aside0.mk (HA.out.step hb6)
                 have hAB := blk_below HAB.out hb6
                 have p0 : w6.cell? ⟨wr.heap.size, 0, none⟩ = some (.int .i64 4) := (blk_cell hAB 0).trans rfl
                 have p1 : w6.cell? ⟨wr.heap.size, 1, none⟩ = some (.int .i64 0) := (blk_cell hAB 1).trans rfl
                 have p2 : w6.cell? ⟨wr.heap.size, 2, none⟩ = some (.int .i64 n) := (blk_cell hAB 2).trans rfl
                 have hz6 := HI6.out.hc
                 have hp6 : wr.heap.size < w6.heap.size := blk_lt hAB
                 have HB6 := Aside0.mk (below_step (below_alloc (Below.refl wr.heap.size wr) (.cells #[.int .i64 4, .int .i64 0, .int .i64 n] 26)) hb6)
                 clear hAB hb6)
              | (go_at_call 36; refine (HLV1.out _ HI6.out).mono ?_; rintro e w7 ⟨rfl, hb7⟩))
            go_roundw
            case rel => exact ⟨4, by omega, by go_num, ⟨HI6.out.step hb7, blk_below HI.out.2 (below_step HB6.out hb7)⟩⟩
            case measure => simp [intOf]
        · obtain rfl : k = 4 := by omega
          rw [show ((4 : Nat) : Int) = 4 from rfl]
          have HS := Aside0.mk HI.out.1
          clear HI hz hbz HP3 HP4 HLC HLV hlt hk hba
          obtain ⟨w8, hw8⟩ : ∃ w8, w8 = wr := ⟨_, rfl⟩
          subst hw8
          go_wp2
          go_loopw [21, 23, 24] (fun v21 v23 v24 wr => ∃ i : Nat, i ≤ g.length ∧ v24 = .int .i64 i ∧ v21 = .int .i64 (bitsN (fun i => decide (0 ≤ savW hold win (rd_T52 g (i : Int)))) i) ∧ v23 = .int .i64 (bitsN (fun i => decide (0 < savW hold win (rd_T52 g (i : Int)))) i) ∧ Aside0 (SeaI A Ag l g hold win bc w wr)) (fun v21 v23 v24 wr => g.length - (intOf v24).toNat)
          case atStart => exact ⟨0, Nat.zero_le _, rfl, rfl, rfl, HS⟩
          case round =>
            clear HS
            obtain ⟨i, hi, rfl, rfl, rfl, HI⟩ := hrel
            by_cases hlt : i < g.length
            · obtain ⟨ag1, rfl, y0, y1, y2⟩ := at_T52 HI.out.g (i : Int) (by omega) (by omega)
              simp only [Int.toNat_natCast] at y0 y1 y2
              have hz := HI.out.hc
              have hfew : fewG (rd_T52 g (i : Int)) := by rw [rd52_is g i hlt]; exact HF.out.few.few _ (List.getElem_mem _)
              have hs := few_sav hfew HF.out.few.h0 HF.out.few.h1 HF.out.few.w0 HF.out.few.w1
              have hm := few_mul hfew HF.out.few.h0 HF.out.few.h1
              have hd : wrap64 (hold * wrap64 ((rd_T52 g (i : Int)).f2 - (rd_T52 g (i : Int)).f1)) = win - savW hold win (rd_T52 g (i : Int)) := by
                obtain ⟨f1, f2, f3⟩ := hfew
                have e1 : wrap64 ((rd_T52 g (i : Int)).f2 - (rd_T52 g (i : Int)).f1) = (rd_T52 g (i : Int)).f2 - (rd_T52 g (i : Int)).f1 := by unfold wrap64; omega
                rw [e1, hs]
                generalize hold * ((rd_T52 g (i : Int)).f2 - (rd_T52 g (i : Int)).f1) = m at *
                unfold wrap64
                omega
              have hw2 : wrap64 ((2 : Int) ^ i) = 2 ^ i := by
                exact wrap_pow i (by omega)
              have HW2 := Aside0.mk hw2
              clear hs hm hfew hw2
              obtain ⟨f1, hf1⟩ : ∃ x, (rd_T52 g (i : Int)).f1 = x := ⟨_, rfl⟩
              obtain ⟨f2, hf2⟩ : ∃ x, (rd_T52 g (i : Int)).f2 = x := ⟨_, rfl⟩
              rw [hf1] at y1
              rw [hf2] at y2
              rw [hf1, hf2] at hd
              clear hf1 hf2
              by_cases h0 : 0 ≤ savW hold win (rd_T52 g (i : Int))
              · by_cases h1 : 0 < savW hold win (rd_T52 g (i : Int))
                · have HS0 := Aside0.mk h0
                  have HS1 := Aside0.mk h1
                  have q1 : wrap64 (hold * wrap64 (f2 - f1)) ≤ win := by omega
                  have q2 : wrap64 (hold * wrap64 (f2 - f1)) < win := by omega
                  clear h0 h1 hd
                  go_wp2
                  go_region
                  go_wp2
                  go_roundw
                  case rel => exact ⟨i + 1, by omega, by go_num, by rw [HW2.out, bitsN_or _ _ (by omega), bitsN, if_pos (by simpa using HS0.out)], by rw [HW2.out, bitsN_or _ _ (by omega), bitsN, if_pos (by simpa using HS1.out)], ⟨HI.out.step (by repeat (first | exact Below.refl _ _ | apply below_drew | apply pw_below_drewN))⟩⟩
                  case measure => simp [intOf]; omega
                · have HS0 := Aside0.mk h0
                  have HS1 := Aside0.mk h1
                  have q1 : wrap64 (hold * wrap64 (f2 - f1)) ≤ win := by omega
                  have q2 : ¬ wrap64 (hold * wrap64 (f2 - f1)) < win := by omega
                  clear h0 h1 hd
                  go_wp2
                  go_region
                  go_wp2
                  go_roundw
                  case rel => exact ⟨i + 1, by omega, by go_num, by rw [HW2.out, bitsN_or _ _ (by omega), bitsN, if_pos (by simpa using HS0.out)], by rw [bitsN, if_neg (by simpa using HS1.out)], ⟨HI.out.step (by repeat (first | exact Below.refl _ _ | apply below_drew | apply pw_below_drewN))⟩⟩
                  case measure => simp [intOf]; omega
              · have HS0 := Aside0.mk h0
                have HS1 : Aside0 (¬ 0 < savW hold win (rd_T52 g (i : Int))) := ⟨by omega⟩
                have q1 : ¬ wrap64 (hold * wrap64 (f2 - f1)) ≤ win := by omega
                clear h0 hd
                go_wp2
                go_region
                go_wp2
                go_roundw
                case rel => exact ⟨i + 1, by omega, by go_num, by rw [bitsN, if_neg (by simpa using HS0.out)], by rw [bitsN, if_neg (by simpa using HS1.out)], ⟨HI.out.step (by repeat (first | exact Below.refl _ _ | apply below_drew | apply pw_below_drewN))⟩⟩
                case measure => simp [intOf]; omega
            · obtain rfl : i = g.length := by omega
              obtain ⟨lb, hlb⟩ : ∃ x, bitsN (fun i => decide (0 ≤ savW hold win (rd_T52 g (i : Int)))) g.length = x := ⟨_, rfl⟩
              obtain ⟨wb, hwb⟩ : ∃ x, bitsN (fun i => decide (0 < savW hold win (rd_T52 g (i : Int)))) g.length = x := ⟨_, rfl⟩
              rw [hlb, hwb]
              have HLB : Aside0 (leastB hold win g = lb) := ⟨hlb⟩
              have HWB : Aside0 (worthB hold win g = wb) := ⟨hwb⟩
              have hwr : 0 ≤ wb ∧ wb < 256 := by
                have h1 := bitsN_bd (fun i => decide (0 < savW hold win (rd_T52 g (i : Int)))) g.length
                rw [hwb] at h1
                have h3 := pow_256 g.length hgl
                omega
              have HWR := Aside0.mk hwr
              have HLR : Aside0 (0 ≤ lb ∧ lb < 9223372036854775808) := ⟨by
                have h1 := bitsN_bd (fun i => decide (0 ≤ savW hold win (rd_T52 g (i : Int)))) g.length
                rw [hlb] at h1
                have h3 := pow_256 g.length hgl
                omega⟩
              clear hlb hwb hwr hlt hi
              obtain ⟨w9, hw9⟩ : ∃ w9, w9 = wr := ⟨_, rfl⟩
              subst hw9
              go_wp2
              obtain ⟨Np, hNp⟩ : ∃ Np : Nat, 2 ^ g.length = Np := ⟨_, rfl⟩
              have hNb : Np ≤ 256 := by
                rw [← hNp]
                exact Nat.pow_le_pow_right (n := 2) (by omega) hgl
              have hNw : wrap64 ((2 : Int) ^ g.length) = (Np : Int) := by rw [wrap_pow _ (by omega), ← hNp]; simp
              have HNP := Aside0.mk hNp
              have HNW := Aside0.mk hNw
              have HKE := Aside0.mk (fun W (hW : SeaI A Ag l g hold win bc w W) => fun (b : Nat) (hb : b < 2 ^ g.length) => kept_sea HF.out A c W hW.l hlc Ag cg hW.g hcg b hb)
              have HLE := Aside0.mk (fun W (hW : SeaI A Ag l g hold win bc w W) => least_sea HF.out A c W hW.l hlc)
              have HLM := Aside0.mk (fun W (hW : SeaI A Ag l g hold win bc w W) => limited_sea HF.out A c W hW.l hlc)
              have HCL : Aside0 ((cheapR hold win (wrap64 ((l.length : Int) * win)) n g (2 ^ g.length)).2.length ≤ 8) := ⟨by
                have h := limit_is HF.out.few HF.out.n0
                rw [h.1]
                exact h.2.2.2⟩
              clear hNp hNw
              generalize wrap64 ((l.length : Int) * win) = base at *
              have HIo := Aside0.mk HI.out
              go_loopw [19, 20, 22, 26] (fun v19 v20 v22 v26 wr => ∃ (b : Nat) (Ak : Option Addr) (ck : Nat), b ≤ Np ∧ v26 = .int .i64 b ∧ v19 = .int .i64 (bestR hold win base g b) ∧ v20 = .int .i64 (cheapR hold win base n g b).1 ∧ v22 = .slice Ak (cheapR hold win base n g b).2.length ck ∧ (cheapR hold win base n g b).2.length ≤ ck ∧
                Aside0 (SeaI A Ag l g hold win bc w wr ∧ Kd.C (Kd.int .i64) wr Ak (cheapR hold win base n g b).2.length (cheapR hold win base n g b).2)) (fun v19 v20 v22 v26 wr => Np - (intOf v26).toNat)
              case atStart => exact ⟨0, none, 0, Nat.zero_le _, rfl, rfl, rfl, rfl, Nat.le_refl _, ⟨HIo.out, rfl, Nat.zero_le _, fun h => absurd h (Nat.lt_irrefl 0)⟩⟩
              case round =>
                clear HIo HI
                obtain ⟨b, Ak, ck, hb, rfl, rfl, rfl, rfl, hck, HI⟩ := hrel
                by_cases hlt : b < Np
                · have hz := HI.out.1.hc
                  have hb256 : b < 256 := by omega
                  have HLI := Aside0.mk (fun W => listed_any (b : Int) W (by omega) (by omega))
                  have q9 : decide ((b : Int) < wrap64 ((2 : Int) ^ g.length)) = true := by rw [HNW.out]; simpa using hlt
                  have HKE := Aside0.mk (HKE.out wr HI.out.1 b (by rw [HNP.out]; exact hlt))
                  obtain ⟨kc, hkc⟩ : ∃ x, keepC hold win g (b : Int) base g.length = x := ⟨_, rfl⟩
                  obtain ⟨bb, hbb⟩ : ∃ x, bestR hold win base g b = x := ⟨_, rfl⟩
                  obtain ⟨fi, hfi⟩ : ∃ x, decide (mostN g (b : Int) g.length ≤ n) = x := ⟨_, rfl⟩
                  obtain ⟨cr, hcr⟩ : ∃ x, cheapR hold win base n g b = x := ⟨_, rfl⟩
                  rw [hkc, hfi] at HKE
                  rw [hcr] at hck HI
                  rw [hbb, hcr]
                  obtain ⟨ch, cl⟩ := cr
                  have HSB := Aside0.mk (step_best hkc hbb)
                  have hsc := @step_cheap hold win base n g b kc ch wb (Go.bits .andNot .i64 (b : Int) wb) cl fi
                  have hsc := hsc hkc
                  have hsc := hsc hcr
                  have hsc := hsc HWB.out
                  have hsc := hsc rfl
                  have hsc := hsc hfi
                  have hsc := hsc HWR.out.1 HWR.out.2 hb256
                  have HSC := Aside0.mk hsc
                  clear hsc
                  simp only at hck HI ⊢
                  clear hkc hbb hfi hcr
                  have hmeas : Np - (intOf (.int .i64 ((b : Int) + 1))).toNat < Np - (intOf (.int .i64 (b : Int))).toNat := by simp [intOf]; omega
                  have hL8 := lstU_len (b : Int) 8
                  generalize lstU (b : Int) 8 = L at *
                  by_cases q0 : bb < 0
                  · skip
                    by_cases hn : Go.bits .andNot .i64 (b : Int) wb = 0
                    · cases fi with
                      | false =>
                        have HBS := Aside0.mk (HSB.out.1 q0)
                        have HCS := Aside0.mk (HSC.out.2.1 rfl)
                        go_wp2_with (first
                          | (go_at_call 37; refine HKE.out.mono ?_; rintro e w10 ⟨rfl, hb10⟩))
                        go_roundw
                        case rel => exact ⟨b + 1, Ak, ck, hlt, by go_num, by rw [HBS.out], by rw [HCS.out], by rw [HCS.out], by rw [HCS.out]; exact hck, ⟨HI.out.1.step hb10, by rw [HCS.out]; exact Kd.C_below HI.out.2 hb10⟩⟩
                        case measure => exact hmeas
                      | true =>
                        by_cases q2 : ch < 0
                        · skip
                          have HBS := Aside0.mk (HSB.out.1 q0)
                          have HCS := Aside0.mk (HSC.out.2.2.1 hn rfl q2)
                          go_wp2_with (first
                            | (go_at_call 37; refine HKE.out.mono ?_; rintro e w10 ⟨rfl, hb10⟩)
                            | (go_at_call 39; refine (HLI.out _).mono ?_; rintro e w11 ⟨hb11, A1, c1, rfl, hc1, hC1⟩; have HC1 := Aside0.mk hC1; clear hC1))
                          go_roundw
                          case rel => exact ⟨b + 1, A1, c1, hlt, by go_num, by rw [HBS.out], by rw [HCS.out], by rw [HCS.out], by rw [HCS.out]; exact hc1, ⟨HI.out.1.step (below_step hb10 hb11), by rw [HCS.out]; exact HC1.out⟩⟩
                          case measure => exact hmeas
                        · by_cases q3 : kc < ch
                          · skip
                            have HBS := Aside0.mk (HSB.out.1 q0)
                            have HCS := Aside0.mk (HSC.out.2.2.2.1 hn rfl q3)
                            go_wp2_with (first
                              | (go_at_call 37; refine HKE.out.mono ?_; rintro e w10 ⟨rfl, hb10⟩)
                              | (go_at_call 39; refine (HLI.out _).mono ?_; rintro e w11 ⟨hb11, A1, c1, rfl, hc1, hC1⟩; have HC1 := Aside0.mk hC1; clear hC1))
                            go_roundw
                            case rel => exact ⟨b + 1, A1, c1, hlt, by go_num, by rw [HBS.out], by rw [HCS.out], by rw [HCS.out], by rw [HCS.out]; exact hc1, ⟨HI.out.1.step (below_step hb10 hb11), by rw [HCS.out]; exact HC1.out⟩⟩
                            case measure => exact hmeas
                          · by_cases q5 : kc = ch
                            · subst q5
                              cases q4 : lexL L cl with
                              | true =>
                                have HBS := Aside0.mk (HSB.out.1 q0)
                                have HCS := Aside0.mk (HSC.out.2.2.2.2.1 hn rfl rfl q4)
                                have HLX := Aside0.mk q4
                                clear q4
                                go_wp2_with (first
                                  | (go_at_call 37; refine HKE.out.mono ?_; rintro e w10 ⟨rfl, hb10⟩)
                                  | (go_at_call 39; refine (HL2.out _).mono ?_; rintro e w13 ⟨hb13, A2, c2, rfl, hc2, hC2⟩; have HC2 := Aside0.mk hC2; clear hC2)
                                  | (go_at_call 39; refine (HLI.out _).mono ?_; rintro e w11 ⟨hb11, A1, c1, rfl, hc1, hC1⟩; have HC1 := Aside0.mk hC1; clear hC1)
                                  | (go_at_call 38; have hls := less_sea A1 Ak c1 ck L cl _ HC1.out hc1 (Kd.C_below HI.out.2 (below_step hb10 hb11)) hck hL8; rw [HLX.out] at hls; refine hls.mono ?_; rintro e w12 ⟨rfl, hb12⟩; have HL2 := Aside0.mk HLI.out; clear hls))
                                go_roundw
                                case rel => exact ⟨b + 1, A2, c2, hlt, by go_num, by rw [HBS.out], by rw [HCS.out], by rw [HCS.out], by rw [HCS.out]; exact hc2, ⟨HI.out.1.step (below_step (below_step (below_step hb10 hb11) hb12) hb13), by rw [HCS.out]; exact HC2.out⟩⟩
                                case measure => exact hmeas
                              | false =>
                                have HBS := Aside0.mk (HSB.out.1 q0)
                                have HCS := Aside0.mk (HSC.out.2.2.2.2.2.1 q2 q3 q4)
                                have HLX := Aside0.mk q4
                                clear q4
                                go_wp2_with (first
                                  | (go_at_call 37; refine HKE.out.mono ?_; rintro e w10 ⟨rfl, hb10⟩)
                                  | (go_at_call 39; refine (HLI.out _).mono ?_; rintro e w11 ⟨hb11, A1, c1, rfl, hc1, hC1⟩; have HC1 := Aside0.mk hC1; clear hC1)
                                  | (go_at_call 38; have hls := less_sea A1 Ak c1 ck L cl _ HC1.out hc1 (Kd.C_below HI.out.2 (below_step hb10 hb11)) hck hL8; rw [HLX.out] at hls; refine hls.mono ?_; rintro e w12 ⟨rfl, hb12⟩; have HL2 := Aside0.mk HLI.out; clear hls))
                                go_roundw
                                case rel => exact ⟨b + 1, Ak, ck, hlt, by go_num, by rw [HBS.out], by rw [HCS.out], by rw [HCS.out], by rw [HCS.out]; exact hck, ⟨HI.out.1.step (below_step (below_step hb10 hb11) hb12), by rw [HCS.out]; exact Kd.C_below HI.out.2 (below_step (below_step hb10 hb11) hb12)⟩⟩
                                case measure => exact hmeas
                            · skip
                              have HBS := Aside0.mk (HSB.out.1 q0)
                              have HCS := Aside0.mk (HSC.out.2.2.2.2.2.2 q2 q3 q5)
                              go_wp2_with (first
                                | (go_at_call 37; refine HKE.out.mono ?_; rintro e w10 ⟨rfl, hb10⟩))
                              go_roundw
                              case rel => exact ⟨b + 1, Ak, ck, hlt, by go_num, by rw [HBS.out], by rw [HCS.out], by rw [HCS.out], by rw [HCS.out]; exact hck, ⟨HI.out.1.step hb10, by rw [HCS.out]; exact Kd.C_below HI.out.2 hb10⟩⟩
                              case measure => exact hmeas
                    · skip
                      have HBS := Aside0.mk (HSB.out.1 q0)
                      have HCS := Aside0.mk (HSC.out.1 hn)
                      go_wp2_with (first
                        | (go_at_call 37; refine HKE.out.mono ?_; rintro e w10 ⟨rfl, hb10⟩))
                      go_roundw
                      case rel => exact ⟨b + 1, Ak, ck, hlt, by go_num, by rw [HBS.out], by rw [HCS.out], by rw [HCS.out], by rw [HCS.out]; exact hck, ⟨HI.out.1.step hb10, by rw [HCS.out]; exact Kd.C_below HI.out.2 hb10⟩⟩
                      case measure => exact hmeas
                  · by_cases q01 : kc < bb
                    · skip
                      by_cases hn : Go.bits .andNot .i64 (b : Int) wb = 0
                      · cases fi with
                        | false =>
                          have HBS := Aside0.mk (HSB.out.2.1 q01)
                          have HCS := Aside0.mk (HSC.out.2.1 rfl)
                          go_wp2_with (first
                            | (go_at_call 37; refine HKE.out.mono ?_; rintro e w10 ⟨rfl, hb10⟩))
                          go_roundw
                          case rel => exact ⟨b + 1, Ak, ck, hlt, by go_num, by rw [HBS.out], by rw [HCS.out], by rw [HCS.out], by rw [HCS.out]; exact hck, ⟨HI.out.1.step hb10, by rw [HCS.out]; exact Kd.C_below HI.out.2 hb10⟩⟩
                          case measure => exact hmeas
                        | true =>
                          by_cases q2 : ch < 0
                          · skip
                            have HBS := Aside0.mk (HSB.out.2.1 q01)
                            have HCS := Aside0.mk (HSC.out.2.2.1 hn rfl q2)
                            go_wp2_with (first
                              | (go_at_call 37; refine HKE.out.mono ?_; rintro e w10 ⟨rfl, hb10⟩)
                              | (go_at_call 39; refine (HLI.out _).mono ?_; rintro e w11 ⟨hb11, A1, c1, rfl, hc1, hC1⟩; have HC1 := Aside0.mk hC1; clear hC1))
                            go_roundw
                            case rel => exact ⟨b + 1, A1, c1, hlt, by go_num, by rw [HBS.out], by rw [HCS.out], by rw [HCS.out], by rw [HCS.out]; exact hc1, ⟨HI.out.1.step (below_step hb10 hb11), by rw [HCS.out]; exact HC1.out⟩⟩
                            case measure => exact hmeas
                          · by_cases q3 : kc < ch
                            · skip
                              have HBS := Aside0.mk (HSB.out.2.1 q01)
                              have HCS := Aside0.mk (HSC.out.2.2.2.1 hn rfl q3)
                              go_wp2_with (first
                                | (go_at_call 37; refine HKE.out.mono ?_; rintro e w10 ⟨rfl, hb10⟩)
                                | (go_at_call 39; refine (HLI.out _).mono ?_; rintro e w11 ⟨hb11, A1, c1, rfl, hc1, hC1⟩; have HC1 := Aside0.mk hC1; clear hC1))
                              go_roundw
                              case rel => exact ⟨b + 1, A1, c1, hlt, by go_num, by rw [HBS.out], by rw [HCS.out], by rw [HCS.out], by rw [HCS.out]; exact hc1, ⟨HI.out.1.step (below_step hb10 hb11), by rw [HCS.out]; exact HC1.out⟩⟩
                              case measure => exact hmeas
                            · by_cases q5 : kc = ch
                              · subst q5
                                cases q4 : lexL L cl with
                                | true =>
                                  have HBS := Aside0.mk (HSB.out.2.1 q01)
                                  have HCS := Aside0.mk (HSC.out.2.2.2.2.1 hn rfl rfl q4)
                                  have HLX := Aside0.mk q4
                                  clear q4
                                  go_wp2_with (first
                                    | (go_at_call 37; refine HKE.out.mono ?_; rintro e w10 ⟨rfl, hb10⟩)
                                    | (go_at_call 39; refine (HL2.out _).mono ?_; rintro e w13 ⟨hb13, A2, c2, rfl, hc2, hC2⟩; have HC2 := Aside0.mk hC2; clear hC2)
                                    | (go_at_call 39; refine (HLI.out _).mono ?_; rintro e w11 ⟨hb11, A1, c1, rfl, hc1, hC1⟩; have HC1 := Aside0.mk hC1; clear hC1)
                                    | (go_at_call 38; have hls := less_sea A1 Ak c1 ck L cl _ HC1.out hc1 (Kd.C_below HI.out.2 (below_step hb10 hb11)) hck hL8; rw [HLX.out] at hls; refine hls.mono ?_; rintro e w12 ⟨rfl, hb12⟩; have HL2 := Aside0.mk HLI.out; clear hls))
                                  go_roundw
                                  case rel => exact ⟨b + 1, A2, c2, hlt, by go_num, by rw [HBS.out], by rw [HCS.out], by rw [HCS.out], by rw [HCS.out]; exact hc2, ⟨HI.out.1.step (below_step (below_step (below_step hb10 hb11) hb12) hb13), by rw [HCS.out]; exact HC2.out⟩⟩
                                  case measure => exact hmeas
                                | false =>
                                  have HBS := Aside0.mk (HSB.out.2.1 q01)
                                  have HCS := Aside0.mk (HSC.out.2.2.2.2.2.1 q2 q3 q4)
                                  have HLX := Aside0.mk q4
                                  clear q4
                                  go_wp2_with (first
                                    | (go_at_call 37; refine HKE.out.mono ?_; rintro e w10 ⟨rfl, hb10⟩)
                                    | (go_at_call 39; refine (HLI.out _).mono ?_; rintro e w11 ⟨hb11, A1, c1, rfl, hc1, hC1⟩; have HC1 := Aside0.mk hC1; clear hC1)
                                    | (go_at_call 38; have hls := less_sea A1 Ak c1 ck L cl _ HC1.out hc1 (Kd.C_below HI.out.2 (below_step hb10 hb11)) hck hL8; rw [HLX.out] at hls; refine hls.mono ?_; rintro e w12 ⟨rfl, hb12⟩; have HL2 := Aside0.mk HLI.out; clear hls))
                                  go_roundw
                                  case rel => exact ⟨b + 1, Ak, ck, hlt, by go_num, by rw [HBS.out], by rw [HCS.out], by rw [HCS.out], by rw [HCS.out]; exact hck, ⟨HI.out.1.step (below_step (below_step hb10 hb11) hb12), by rw [HCS.out]; exact Kd.C_below HI.out.2 (below_step (below_step hb10 hb11) hb12)⟩⟩
                                  case measure => exact hmeas
                              · skip
                                have HBS := Aside0.mk (HSB.out.2.1 q01)
                                have HCS := Aside0.mk (HSC.out.2.2.2.2.2.2 q2 q3 q5)
                                go_wp2_with (first
                                  | (go_at_call 37; refine HKE.out.mono ?_; rintro e w10 ⟨rfl, hb10⟩))
                                go_roundw
                                case rel => exact ⟨b + 1, Ak, ck, hlt, by go_num, by rw [HBS.out], by rw [HCS.out], by rw [HCS.out], by rw [HCS.out]; exact hck, ⟨HI.out.1.step hb10, by rw [HCS.out]; exact Kd.C_below HI.out.2 hb10⟩⟩
                                case measure => exact hmeas
                      · skip
                        have HBS := Aside0.mk (HSB.out.2.1 q01)
                        have HCS := Aside0.mk (HSC.out.1 hn)
                        go_wp2_with (first
                          | (go_at_call 37; refine HKE.out.mono ?_; rintro e w10 ⟨rfl, hb10⟩))
                        go_roundw
                        case rel => exact ⟨b + 1, Ak, ck, hlt, by go_num, by rw [HBS.out], by rw [HCS.out], by rw [HCS.out], by rw [HCS.out]; exact hck, ⟨HI.out.1.step hb10, by rw [HCS.out]; exact Kd.C_below HI.out.2 hb10⟩⟩
                        case measure => exact hmeas
                    · skip
                      by_cases hn : Go.bits .andNot .i64 (b : Int) wb = 0
                      · cases fi with
                        | false =>
                          have HBS := Aside0.mk (HSB.out.2.2 q0 q01)
                          have HCS := Aside0.mk (HSC.out.2.1 rfl)
                          go_wp2_with (first
                            | (go_at_call 37; refine HKE.out.mono ?_; rintro e w10 ⟨rfl, hb10⟩))
                          go_roundw
                          case rel => exact ⟨b + 1, Ak, ck, hlt, by go_num, by rw [HBS.out], by rw [HCS.out], by rw [HCS.out], by rw [HCS.out]; exact hck, ⟨HI.out.1.step hb10, by rw [HCS.out]; exact Kd.C_below HI.out.2 hb10⟩⟩
                          case measure => exact hmeas
                        | true =>
                          by_cases q2 : ch < 0
                          · skip
                            have HBS := Aside0.mk (HSB.out.2.2 q0 q01)
                            have HCS := Aside0.mk (HSC.out.2.2.1 hn rfl q2)
                            go_wp2_with (first
                              | (go_at_call 37; refine HKE.out.mono ?_; rintro e w10 ⟨rfl, hb10⟩)
                              | (go_at_call 39; refine (HLI.out _).mono ?_; rintro e w11 ⟨hb11, A1, c1, rfl, hc1, hC1⟩; have HC1 := Aside0.mk hC1; clear hC1))
                            go_roundw
                            case rel => exact ⟨b + 1, A1, c1, hlt, by go_num, by rw [HBS.out], by rw [HCS.out], by rw [HCS.out], by rw [HCS.out]; exact hc1, ⟨HI.out.1.step (below_step hb10 hb11), by rw [HCS.out]; exact HC1.out⟩⟩
                            case measure => exact hmeas
                          · by_cases q3 : kc < ch
                            · skip
                              have HBS := Aside0.mk (HSB.out.2.2 q0 q01)
                              have HCS := Aside0.mk (HSC.out.2.2.2.1 hn rfl q3)
                              go_wp2_with (first
                                | (go_at_call 37; refine HKE.out.mono ?_; rintro e w10 ⟨rfl, hb10⟩)
                                | (go_at_call 39; refine (HLI.out _).mono ?_; rintro e w11 ⟨hb11, A1, c1, rfl, hc1, hC1⟩; have HC1 := Aside0.mk hC1; clear hC1))
                              go_roundw
                              case rel => exact ⟨b + 1, A1, c1, hlt, by go_num, by rw [HBS.out], by rw [HCS.out], by rw [HCS.out], by rw [HCS.out]; exact hc1, ⟨HI.out.1.step (below_step hb10 hb11), by rw [HCS.out]; exact HC1.out⟩⟩
                              case measure => exact hmeas
                            · by_cases q5 : kc = ch
                              · subst q5
                                cases q4 : lexL L cl with
                                | true =>
                                  have HBS := Aside0.mk (HSB.out.2.2 q0 q01)
                                  have HCS := Aside0.mk (HSC.out.2.2.2.2.1 hn rfl rfl q4)
                                  have HLX := Aside0.mk q4
                                  clear q4
                                  go_wp2_with (first
                                    | (go_at_call 37; refine HKE.out.mono ?_; rintro e w10 ⟨rfl, hb10⟩)
                                    | (go_at_call 39; refine (HL2.out _).mono ?_; rintro e w13 ⟨hb13, A2, c2, rfl, hc2, hC2⟩; have HC2 := Aside0.mk hC2; clear hC2)
                                    | (go_at_call 39; refine (HLI.out _).mono ?_; rintro e w11 ⟨hb11, A1, c1, rfl, hc1, hC1⟩; have HC1 := Aside0.mk hC1; clear hC1)
                                    | (go_at_call 38; have hls := less_sea A1 Ak c1 ck L cl _ HC1.out hc1 (Kd.C_below HI.out.2 (below_step hb10 hb11)) hck hL8; rw [HLX.out] at hls; refine hls.mono ?_; rintro e w12 ⟨rfl, hb12⟩; have HL2 := Aside0.mk HLI.out; clear hls))
                                  go_roundw
                                  case rel => exact ⟨b + 1, A2, c2, hlt, by go_num, by rw [HBS.out], by rw [HCS.out], by rw [HCS.out], by rw [HCS.out]; exact hc2, ⟨HI.out.1.step (below_step (below_step (below_step hb10 hb11) hb12) hb13), by rw [HCS.out]; exact HC2.out⟩⟩
                                  case measure => exact hmeas
                                | false =>
                                  have HBS := Aside0.mk (HSB.out.2.2 q0 q01)
                                  have HCS := Aside0.mk (HSC.out.2.2.2.2.2.1 q2 q3 q4)
                                  have HLX := Aside0.mk q4
                                  clear q4
                                  go_wp2_with (first
                                    | (go_at_call 37; refine HKE.out.mono ?_; rintro e w10 ⟨rfl, hb10⟩)
                                    | (go_at_call 39; refine (HLI.out _).mono ?_; rintro e w11 ⟨hb11, A1, c1, rfl, hc1, hC1⟩; have HC1 := Aside0.mk hC1; clear hC1)
                                    | (go_at_call 38; have hls := less_sea A1 Ak c1 ck L cl _ HC1.out hc1 (Kd.C_below HI.out.2 (below_step hb10 hb11)) hck hL8; rw [HLX.out] at hls; refine hls.mono ?_; rintro e w12 ⟨rfl, hb12⟩; have HL2 := Aside0.mk HLI.out; clear hls))
                                  go_roundw
                                  case rel => exact ⟨b + 1, Ak, ck, hlt, by go_num, by rw [HBS.out], by rw [HCS.out], by rw [HCS.out], by rw [HCS.out]; exact hck, ⟨HI.out.1.step (below_step (below_step hb10 hb11) hb12), by rw [HCS.out]; exact Kd.C_below HI.out.2 (below_step (below_step hb10 hb11) hb12)⟩⟩
                                  case measure => exact hmeas
                              · skip
                                have HBS := Aside0.mk (HSB.out.2.2 q0 q01)
                                have HCS := Aside0.mk (HSC.out.2.2.2.2.2.2 q2 q3 q5)
                                go_wp2_with (first
                                  | (go_at_call 37; refine HKE.out.mono ?_; rintro e w10 ⟨rfl, hb10⟩))
                                go_roundw
                                case rel => exact ⟨b + 1, Ak, ck, hlt, by go_num, by rw [HBS.out], by rw [HCS.out], by rw [HCS.out], by rw [HCS.out]; exact hck, ⟨HI.out.1.step hb10, by rw [HCS.out]; exact Kd.C_below HI.out.2 hb10⟩⟩
                                case measure => exact hmeas
                      · skip
                        have HBS := Aside0.mk (HSB.out.2.2 q0 q01)
                        have HCS := Aside0.mk (HSC.out.1 hn)
                        go_wp2_with (first
                          | (go_at_call 37; refine HKE.out.mono ?_; rintro e w10 ⟨rfl, hb10⟩))
                        go_roundw
                        case rel => exact ⟨b + 1, Ak, ck, hlt, by go_num, by rw [HBS.out], by rw [HCS.out], by rw [HCS.out], by rw [HCS.out]; exact hck, ⟨HI.out.1.step hb10, by rw [HCS.out]; exact Kd.C_below HI.out.2 hb10⟩⟩
                        case measure => exact hmeas
                · obtain rfl : b = Np := by omega
                  have HLE1 := HLE
                  obtain ⟨bz, hbz⟩ : ∃ x, bestR hold win base g b = x := ⟨_, rfl⟩
                  obtain ⟨cz, hcz⟩ : ∃ x, cheapR hold win base n g b = x := ⟨_, rfl⟩
                  rw [HNP.out, hbz, HLB.out] at HLE
                  rw [HNP.out, hcz] at HLM HCL
                  rw [hcz] at hck HI
                  rw [hbz, hcz]
                  obtain ⟨ch, cl⟩ := cz
                  simp only at HLM HCL hck HI ⊢
                  have HLI := Aside0.mk (fun W => listed_any lb W HLR.out.1 HLR.out.2)
                  have hL8 := lstU_len lb 8
                  generalize lstU lb 8 = L at *
                  have hz := HI.out.1.hc
                  have q9 : decide ((b : Int) < wrap64 ((2 : Int) ^ g.length)) = false := by rw [HNW.out]; simp
                  clear hbz hcz hlt hb HLE1 HKE HNP HNW
                  have HIo := Aside0.mk HI.out
                  clear HI
                  go_wp2_with (first
                    | (go_at_call 11; refine (HLE.out _ HIo.out.1).mono ?_; rintro e w14 ⟨hb14, A3, c3, rfl, hc3, hC3⟩
                       have HI4 := Aside0.mk (show SeaI A Ag l g hold win bc w w14 from HIo.out.1.step hb14)
                       have HCl4 := Aside0.mk (Kd.C_below HIo.out.2 hb14)
                       have HC3 := Aside0.mk hC3
                       have hz4 := HI4.out.hc
                       clear hC3 hb14)
                    | (go_at_call 39; refine (HLI.out _).mono ?_; rintro e w15 ⟨hb15, A4, c4, rfl, hc4, hC4⟩
                       have HI5 := Aside0.mk (HI4.out.step hb15)
                       have HCl5 := Aside0.mk (Kd.C_below HCl4.out hb15)
                       have HC35 := Aside0.mk (Kd.C_below HC3.out hb15)
                       have HC4 := Aside0.mk hC4
                       clear hC4 hb15)
                    | (go_at_call 40; refine (same_sea A5 Ak c5 ck cl _ HC5.out hc5 HCl7.out hck HCL.out).mono ?_; rintro e w18 ⟨rfl, hb18⟩
                       have HI8 := Aside0.mk (HI7.out.step hb18)
                       clear hb18)
                    | (go_at_call 40; refine (same_sea A3 A4 c3 c4 L _ HC35.out hc3 HC4.out hc4 hL8).mono ?_; rintro e w16 ⟨rfl, hb16⟩
                       have HI6 := Aside0.mk (HI5.out.step hb16)
                       have HCl6 := Aside0.mk (Kd.C_below HCl5.out hb16)
                       have hz6 := HI6.out.hc
                       clear hb16)
                    | (go_at_call 41; refine (HLM.out _ HI6.out).mono ?_; rintro e w17 ⟨hb17, A5, c5, rfl, hc5, hC5⟩
                       have HI7 := Aside0.mk (HI6.out.step hb17)
                       have HCl7 := Aside0.mk (Kd.C_below HCl6.out hb17)
                       have HC5 := Aside0.mk hC5
                       have hz7 := HI7.out.hc
                       clear hC5 hb17))
                  have he := HF.out.e0
                  obtain ⟨E, rfl⟩ := Int.eq_ofNat_of_zero_le he.1
                  have HAG := Aside0.mk (fun W (hW : SeaI A Ag l g hold win bc w W) => fun (a : Nat) => age_sea HF.out A c W hW.l hlc (a : Int) (by omega))
                  have HTU := Aside0.mk (fun W (hW : SeaI A Ag l g hold win bc w W) => tune_sea HF.out A c W hW.l hlc)
                  rw [Int.toNat_natCast] at HTU
                  have HG := Aside0.mk HI8.out
                  have hE : E ≤ 80 := by omega
                  clear he HI4 HCl4 HC3 HI5 HCl5 HC35 HC4 HI6 HCl6 HI7 HCl7 HC5 HI8 hz hz4 hz6 hz7 q9 HLE HLM HCL HLI HIo
                  obtain ⟨w19, hw19⟩ : ∃ x, x = w18 := ⟨_, rfl⟩
                  subst hw19
                  go_loopw [33, 34, 35] (fun v33 v34 v35 wr => ∃ a : Nat, a ≤ E + 1 ∧ v35 = .int .i64 a ∧ v33 = .int .i64 (tuneL (fun a => costV hold win a l) a).1 ∧ v34 = .int .i64 (tuneL (fun a => costV hold win a l) a).2 ∧ Aside0 (SeaI A Ag l g hold win bc w wr)) (fun v33 v34 v35 wr => E + 1 - (intOf v35).toNat)
                  case atStart => exact ⟨0, Nat.zero_le _, rfl, rfl, rfl, HG⟩
                  case round =>
                    clear HG
                    obtain ⟨a, ha, rfl, rfl, rfl, HI⟩ := hrel
                    have hz := HI.out.hc
                    by_cases hlt : a < E + 1
                    · have hmeas : E + 1 - (intOf (.int .i64 ((a : Int) + 1))).toNat < E + 1 - (intOf (.int .i64 (a : Int))).toNat := by simp [intOf]; omega
                      have HAG1 := Aside0.mk (HAG.out _ HI.out a)
                      obtain ⟨tp, htp⟩ : ∃ x, tuneL (fun a => costV hold win a l) a = x := ⟨_, rfl⟩
                      obtain ⟨t, p⟩ := tp
                      obtain ⟨cv, hcv⟩ : ∃ x, costV hold win (a : Int) l = x := ⟨_, rfl⟩
                      have HST := Aside0.mk (step_tune (C := fun a => costV hold win a l) hcv htp)
                      rw [hcv] at HAG1
                      rw [htp]
                      simp only
                      clear hcv htp
                      by_cases q0 : p < 0
                      · skip
                        have HTS := Aside0.mk (HST.out.1 q0)
                        go_wp2_with (go_at_call 36; refine HAG1.out.mono ?_; rintro e w20 ⟨rfl, hb20⟩)
                        go_roundw
                        case rel => exact ⟨a + 1, hlt, by go_num, by rw [HTS.out], by rw [HTS.out], ⟨HI.out.step hb20⟩⟩
                        case measure => exact hmeas
                      · by_cases q1 : cv < p
                        · skip
                          have HTS := Aside0.mk (HST.out.2.1 q1)
                          go_wp2_with (go_at_call 36; refine HAG1.out.mono ?_; rintro e w20 ⟨rfl, hb20⟩)
                          go_roundw
                          case rel => exact ⟨a + 1, hlt, by go_num, by rw [HTS.out], by rw [HTS.out], ⟨HI.out.step hb20⟩⟩
                          case measure => exact hmeas
                        · skip
                          have HTS := Aside0.mk (HST.out.2.2 q0 q1)
                          go_wp2_with (go_at_call 36; refine HAG1.out.mono ?_; rintro e w20 ⟨rfl, hb20⟩)
                          go_roundw
                          case rel => exact ⟨a + 1, hlt, by go_num, by rw [HTS.out], by rw [HTS.out], ⟨HI.out.step hb20⟩⟩
                          case measure => exact hmeas
                    · obtain rfl : a = E + 1 := by omega
                      obtain ⟨tp, htp⟩ : ∃ x, tuneL (fun a => costV hold win a l) (E + 1) = x := ⟨_, rfl⟩
                      obtain ⟨t, p⟩ := tp
                      rw [htp] at HTU
                      rw [htp]
                      simp only at HTU ⊢
                      have HBW := Aside0.mk HI.out.bel
                      have HTU1 := Aside0.mk (HTU.out _ HI.out)
                      clear htp HTU HAG
                      rw [show ((E + 1 : Nat) : Int) = (E : Int) + 1 from rfl]
                      go_wp2_with (go_at_call 14; refine HTU1.out.mono ?_; rintro e w20 ⟨rfl, hb20⟩)
                      go_ret
                      exact ⟨rfl, below_step HBW.out hb20⟩
end Go.Proofs.Ytdkfmbammdmohaa.PPolicyCosts

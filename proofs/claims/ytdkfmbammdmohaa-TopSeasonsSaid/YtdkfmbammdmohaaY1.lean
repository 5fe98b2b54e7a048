/- The walks of listed31 and fit. -/
import Derived.Test.YtdkfmbammdmohaaZ7
import Derived.Test.YtdkfmbammdmohaaX5
import Derived.Test.YtdkfmbammdmohaaX6
import Derived.Laws.BitsLemmas
import Derived.Deep.RegionWith
import Derived.Deep.RegionHeld3
namespace Go.Proofs.Ytdkfmbammdmohaa.PPolicyCosts
open Go.RowKit Go.Proofs.YtdkfmbammdmohaaW.PrintWords Go.Proofs.YtdkfmbammdmohaaW.PrintLast Go.Proofs.YtdkfmbammdmohaaW.PrintMore
open Go.Proofs.YtdkfmbammdmohaaM Go.Proofs.YtdkfmbammdmohaaS
attribute [local go_sem] max2_int min2_int max_two min_two max_three min_three max_four min_four
set_option linter.unusedVariables false
set_option linter.unusedSimpArgs false

theorem wraps_i64 (n : Int) (h₀ : 0 ≤ n) (h₁ : n < 2 ^ 63) : IntKind.i64.wrap n = n := by rw [IntKind.wrap_i64]; omega
theorem and_one (x : Int) (h₀ : 0 ≤ x) (h₁ : x < 2 ^ 63) : bits .and .i64 x 1 = x % 2 := bits_mask .i64 63 (by decide) wraps_i64 1 (by decide) x h₀ h₁
/-- is a bit set? -/
def bitB (b : Int) (i : Nat) : Bool := decide (b / 2 ^ i % 2 = 1)
/-- the numbers of the bits that are set, below a number -/
def lstU (b : Int) (k : Nat) : List Int := ((List.range k).filter (bitB b)).map Int.ofNat
theorem lstU_succ (b : Int) (k : Nat) : lstU b (k + 1) = if bitB b k = true then lstU b k ++ [(k : Int)] else lstU b k := by
  unfold lstU
  rw [List.range_succ, List.filter_append]
  cases h : bitB b k with
  | true => simp [h]
  | false => simp [h]
theorem lstU_zero (b : Int) : lstU b 0 = [] := rfl
theorem bit_is (b : Int) (k : Nat) (b0 : 0 ≤ b) (b1 : b < 9223372036854775808) : (bits .and .i64 (b / 2 ^ k) 1 == 1) = bitB b k := by
  rw [and_one _ (Int.ediv_nonneg b0 (Int.pow_nonneg (by omega))) (Int.lt_of_le_of_lt (Int.ediv_le_self _ b0) b1)]
  unfold bitB
  rw [Bool.eq_iff_iff]
  simp
theorem lstU_len (b : Int) (k : Nat) : (lstU b k).length ≤ k := by
  unfold lstU
  rw [List.length_map]
  exact Nat.le_trans (List.length_filter_le _ _) (by rw [List.length_range]; exact Nat.le_refl _)
def ListedPost (l : List Int) (w : World) (e : Ending) (w' : World) : Prop :=
  Below w.heap.size w w' ∧ ∃ A c, e = .returned (.slice A l.length c) ∧ l.length ≤ c ∧ Kd.C (Kd.int .i64) w' A l.length l
set_option maxRecDepth 100000 in
set_option maxHeartbeats 2000000 in
theorem listed_any (b : Int) (w : World) (b0 : 0 ≤ b) (b1 : b < 9223372036854775808) : Calls Try.prog 39 #[.int .i64 b] w (ListedPost (lstU b 8) w) := by
  go_enter Try.func39, Try.ntmps39
  go_wp2
  go_loopw [3, 4] (fun v3 v4 wr => ∃ k : Nat, k ≤ 8 ∧ v4 = .int .i64 k ∧ Aside0 (Below w.heap.size w wr ∧ wr.ownsRow w.heap.size 3 1 v3 (lstU b k).length ((lstU b k).flatMap eI))) (fun v3 v4 wr => 8 - (intOf v4).toNat)
  case atStart => exact ⟨0, Nat.zero_le _, rfl, ⟨Below.refl _ _, by rw [lstU_zero]; exact own_nil _ _ _ _⟩⟩
  case round =>
    obtain ⟨k, hk, rfl, HI⟩ := hrel
    by_cases hlt : k < 8
    · have hs := lstU_succ b k
      have hln := lstU_len b k
      have hbk := bit_is b k b0 b1
      have HO := Aside0.mk HI.out.2
      have HB := Aside0.mk HI.out.1
      have hsz : w.heap.size ≤ wr.heap.size := HI.out.1.size
      clear HI
      generalize lstU b k = ks at *
      cases hb : bitB b k with
      | true =>
        rw [hb] at hs hbk
        rw [if_pos rfl] at hs
        have HS := Aside0.mk hs
        clear hs hb
        go_wp2_with (at_builtin; go_loud (refine wp_appM (w0 := w) (W := wr) w.heap.size 1 (by rfl) _ _ 33 3 _ 1 8 (by rfl) Try.underlying33 info3x (by rfl) (by omega) (by omega) _ ks.length (ks.flatMap eI) [.int .i64 (k : Int)] (by rfl) (by rfl) (by rfl) (by intro y hy; simp at hy; subst hy; rfl) HO.out HB.out hsz (by omega) ?_); intro v1 w4 hown hbel hgr hat)
        go_roundw
        case rel => exact ⟨k + 1, by omega, by go_num, ⟨hbel, by rw [HS.out]; simp only [List.length_append, List.flatMap_append]; exact hown⟩⟩
        case measure => simp [intOf]; omega
      | false =>
        rw [hb] at hs hbk
        rw [if_neg (by decide)] at hs
        have HS := Aside0.mk hs
        clear hs hb
        go_wp2
        go_roundw
        case rel => exact ⟨k + 1, by omega, by go_num, ⟨HB.out, by rw [HS.out]; exact HO.out⟩⟩
        case measure => simp [intOf]; omega
    · obtain rfl : k = 8 := by omega
      go_wp2
      obtain ⟨Ao, co, hvo, hco, hCo⟩ := own_CI HI.out.2
      subst hvo
      go_ret
      exact ⟨HI.out.1, Ao, co, rfl, hco, hCo⟩
end Go.Proofs.Ytdkfmbammdmohaa.PPolicyCosts

namespace Go.Proofs.Ytdkfmbammdmohaa.PPolicyCosts
open Go.RowKit Go.Proofs.YtdkfmbammdmohaaW.PrintWords Go.Proofs.YtdkfmbammdmohaaW.PrintLast Go.Proofs.YtdkfmbammdmohaaW.PrintMore
open Go.Proofs.YtdkfmbammdmohaaM Go.Proofs.YtdkfmbammdmohaaS
attribute [local go_sem] max2_int min2_int max_two min_two max_three min_three max_four min_four
set_option linter.unusedVariables false
set_option linter.unusedSimpArgs false

theorem rdI_is (l : List Int) (k : Nat) (h : k < l.length) : rd l (k : Int) = l[k] := by
  unfold rd
  rw [Int.toNat_natCast, List.getD_eq_getElem?_getD, List.getElem?_eq_getElem h]
  rfl
/-- how many of some gaps end behind a tick -/
def cntF (gs : List S52) (t : Int) (ks : List Int) : Nat := (ks.filter (fun j => decide ((rd_T52 gs j).f2 > t))).length
theorem cntF_snoc (gs : List S52) (t : Int) (ks : List Int) (j : Int) : cntF gs t (ks ++ [j]) = if (rd_T52 gs j).f2 > t then cntF gs t ks + 1 else cntF gs t ks := by
  unfold cntF
  rw [List.filter_append, List.length_append]
  by_cases h : (rd_T52 gs j).f2 > t
  · simp [h]
  · simp [h]
theorem cntF_len (gs : List S52) (t : Int) (ks : List Int) : cntF gs t ks ≤ ks.length := List.length_filter_le _ _
def FitAt (gs : List S52) (keep : List Int) (n : Int) (i : Nat) : Prop := (cntF gs (rd_T52 gs (rd keep (i : Int))).f1 (keep.take (i + 1)) : Int) ≤ n
/-- Do the gaps fit? -/
def FitP (gs : List S52) (keep : List Int) (n : Int) : Prop := ∀ i : Nat, i < keep.length → FitAt gs keep n i
def FitPost (gs : List S52) (keep : List Int) (n : Int) (w : World) (e : Ending) (w' : World) : Prop :=
  Below w.heap.size w w' ∧ ((FitP gs keep n ∧ e = .returned (.bool true)) ∨ (¬ FitP gs keep n ∧ e = .returned (.bool false)))
def AllFit (gs : List S52) (keep : List Int) (n : Int) (m : Nat) : Prop := ∀ i : Nat, i < m → FitAt gs keep n i
theorem AllFit.snoc {gs : List S52} {keep : List Int} {n : Int} {m : Nat} (h : AllFit gs keep n m) (h2 : FitAt gs keep n m) : AllFit gs keep n (m + 1) := fun k hk => by
  by_cases h3 : k = m
  · subst h3; exact h2
  · exact h k (by omega)

set_option maxRecDepth 100000 in
set_option maxHeartbeats 4000000 in
theorem fit_any (T : Nat) (lv mv ev : Value) (Ag : Option Addr) (cg : Nat) (gs : List S52) (Ak : Option Addr) (ck : Nat) (keep : List Int) (n : Int) (w : World)
    (hT : w.heap[T]? = some (.cells #[lv, .slice Ag gs.length cg, mv, ev] 71 (0, 0))) (hG : Kd.C k52 w Ag gs.length gs) (hK : Kd.C (Kd.int .i64) w Ak keep.length keep) (hck : keep.length ≤ ck) (hk200 : keep.length ≤ 200)
    (hks : ∀ j ∈ keep, 0 ≤ j ∧ j < gs.length) :
    Calls Try.prog 59 #[.pointer (some ⟨T, 0, none⟩), .slice Ak keep.length ck, .int .i64 n] w (FitPost gs keep n w) := by
  have HT := Aside0.mk hT
  have HG := Aside0.mk hG
  have HK := Aside0.mk hK
  have HKS := Aside0.mk hks
  have hgb : gs.length ≤ 9223372036854775807 := hG.2.1
  clear hT hG hK hks
  go_enter Try.func59, Try.ntmps59
  go_wp2
  go_loopw [14] (fun v14 wr => ∃ i : Nat, i ≤ keep.length ∧ v14 = .int .i64 i ∧ Aside0 (Below w.heap.size w wr ∧ AllFit gs keep n i)) (fun v14 wr => keep.length - (intOf v14).toNat)
  case atStart => exact ⟨0, Nat.zero_le _, rfl, ⟨Below.refl _ _, fun k hk => by omega⟩⟩
  case round =>
    obtain ⟨i, hi, rfl, HI⟩ := hrel
    by_cases hlt : i < keep.length
    · obtain ⟨ad, rfl, hxi⟩ := Kd.at_int (Kd.C_below HK.out HI.out.1) (i : Int) (by omega) (by omega)
      simp only [Int.toNat_natCast] at hxi
      have HN := Aside0.mk (fun h : FitAt gs keep n i => AllFit.snoc HI.out.2 h)
      have HB := Aside0.mk (fun h : ¬ FitAt gs keep n i => (fun h2 : FitP gs keep n => h (h2 i hlt)))
      have HBw := Aside0.mk HI.out.1
      have hki := HKS.out (keep[i]) (List.getElem_mem hlt)
      rw [← rdI_is keep i hlt] at hki
      have HFA := Aside0.mk (show FitAt gs keep n i ↔ (cntF gs (rd_T52 gs (rd keep (i : Int))).f1 (keep.take (i + 1)) : Int) ≤ n from Iff.rfl)
      clear HI
      generalize hki2 : rd keep (i : Int) = ki at *
      have HKI := Aside0.mk hki2
      clear hki2
      obtain ⟨wo, hwo⟩ : ∃ wo : World, wo = wr := ⟨_, rfl⟩
      subst hwo
      go_wp2
      go_loopw [9, 24] (fun v9 v24 wr => ∃ m : Nat, m ≤ i + 1 ∧ v24 = .int .i64 m ∧ v9 = .int .i64 (cntF gs (rd_T52 gs ki).f1 (keep.take m) : Nat) ∧ Aside0 (Below w.heap.size w wr)) (fun v9 v24 wr => i + 1 - (intOf v24).toNat)
      case atStart => exact ⟨0, Nat.zero_le _, rfl, by simp [cntF], HBw⟩
      case round =>
        obtain ⟨m, hm, rfl, rfl, HW⟩ := hrel
        by_cases hlt2 : m < i + 1
        · obtain ⟨ad2, he2, hxm⟩ := Kd.at_int (Kd.C_below HK.out HW.out) (m : Int) (by omega) (by omega)
          injection he2 with he2
          subst he2
          simp only [Int.toNat_natCast] at hxm
          have hkm := HKS.out (keep[m]) (List.getElem_mem (by omega))
          rw [← rdI_is keep m (by omega)] at hkm
          have hsn : keep.take (m + 1) = keep.take m ++ [rd keep (m : Int)] := by rw [rdI_is keep m (by omega), List.take_succ_eq_append_getElem (by omega)]
          have hcs : cntF gs (rd_T52 gs ki).f1 (keep.take (m + 1)) = if (rd_T52 gs (rd keep (m : Int))).f2 > (rd_T52 gs ki).f1 then cntF gs (rd_T52 gs ki).f1 (keep.take m) + 1 else cntF gs (rd_T52 gs ki).f1 (keep.take m) := by rw [hsn, cntF_snoc]
          have hcl := cntF_len gs (rd_T52 gs ki).f1 (keep.take m)
          have hcl2 : (keep.take m).length ≤ 200 := by rw [List.length_take]; omega
          obtain ⟨ag, rfl, hy0, hy1, hy2⟩ := at_T52 (Kd.C_below HG.out HW.out) ki hki.1 hki.2
          obtain ⟨ag2, he3, hz0, hz1, hz2⟩ := at_T52 (Kd.C_below HG.out HW.out) (rd keep (m : Int)) hkm.1 hkm.2
          injection he3 with he3
          subst he3
          have t1 : wr.cell? ⟨T, 1, none⟩ = some (.slice (some ag) gs.length cg) := (blk_cell (blk_below HT.out HW.out) 1).trans rfl
          have hTl : T < wr.heap.size := blk_lt (blk_below HT.out HW.out)
          have HCS := Aside0.mk hcs
          clear hcs hsn
          generalize cntF gs (rd_T52 gs ki).f1 (keep.take m) = cn at *
          generalize rd keep (m : Int) = km at *
          generalize rd_T52 gs ki = gi at *
          generalize rd_T52 gs km = gm at *
          by_cases hgt : gi.f1 < gm.f2
          · go_wp2
            go_quiet (fail)
            go_wp2
            go_roundw
            case rel => exact ⟨m + 1, by omega, by go_num, by rw [HCS.out, if_pos hgt]; go_num, ⟨below_step HW.out (pw_below_drewN (Below.refl _ _) _)⟩⟩
            case measure => simp [intOf]; omega
          · go_wp2
            go_quiet (fail)
            go_wp2
            go_roundw
            case rel => exact ⟨m + 1, by omega, by go_num, by rw [HCS.out, if_neg (by omega)], ⟨below_step HW.out (pw_below_drewN (Below.refl _ _) _)⟩⟩
            case measure => simp [intOf]; omega
        · obtain rfl : m = i + 1 := by omega
          have hcl := cntF_len gs (rd_T52 gs ki).f1 (keep.take (i + 1))
          have hcl2 : (keep.take (i + 1)).length ≤ 200 := by rw [List.length_take]; omega
          generalize cntF gs (rd_T52 gs ki).f1 (keep.take (i + 1)) = cn at *
          by_cases hfit : (cn : Int) ≤ n
          · go_wp2
            go_roundw
            case rel => exact ⟨i + 1, by omega, by go_num, ⟨HW.out, HN.out (HFA.out.2 hfit)⟩⟩
            case measure => simp [intOf]; omega
          · have hfit2 : n < (cn : Int) := by omega
            go_wp2
            go_ret
            exact ⟨HW.out, .inr ⟨HB.out (fun h => by have := HFA.out.1 h; omega), rfl⟩⟩
    · obtain rfl : i = keep.length := by omega
      go_wp2
      go_ret
      exact ⟨HI.out.1, .inl ⟨HI.out.2, rfl⟩⟩
end Go.Proofs.Ytdkfmbammdmohaa.PPolicyCosts

namespace Go.Proofs.Ytdkfmbammdmohaa.PPolicyCosts
open Go.RowKit Go.Proofs.YtdkfmbammdmohaaW.PrintWords Go.Proofs.YtdkfmbammdmohaaW.PrintLast Go.Proofs.YtdkfmbammdmohaaW.PrintMore
open Go.Proofs.YtdkfmbammdmohaaM Go.Proofs.YtdkfmbammdmohaaS
attribute [local go_sem] max2_int min2_int max_two min_two max_three min_three max_four min_four
set_option linter.unusedVariables false
set_option linter.unusedSimpArgs false

theorem cmpf_is (a b : Int) : cmp_Compare_int.f a b = some (cmpI a b) := by
  unfold cmp_Compare_int.f cmp_isNaN_int.f cmpI
  by_cases h : a < b
  · simp [h]
  · by_cases h2 : b < a
    · simp [h, h2]
    · simp [h, h2]
/-- the order of lists -/
def lexC : List Int → List Int → Int
  | [], [] => 0
  | [], _ :: _ => -1
  | _ :: _, [] => 1
  | a :: xs, b :: ys => if cmpI a b = 0 then lexC xs ys else cmpI a b
theorem comp_ev (a b : List Int) (ha : a.length ≤ 200) (hb : b.length ≤ 200) : ∀ d j : Nat, j + d = a.length →
    j ≤ b.length → Ev (fun k => slices_Compare_int_int.l0 k a b a (a.length : Int) (j : Int)) (lexC (a.drop j) (b.drop j)) := by
  intro d
  induction d with
  | zero =>
    intro j hj hjb
    have e : a.drop j = [] := by rw [List.drop_eq_nil_iff]; omega
    rw [e]
    by_cases h : a.length < b.length
    · have e2 : b.drop j = b[j] :: b.drop (j + 1) := List.drop_eq_getElem_cons (by omega)
      rw [e2]
      refine Ev.step (f := fun _ => some (-1)) (fun k => ?_) (Ev.now _)
      simp only [slices_Compare_int_int.l0]
      rw [if_neg (by omega), if_pos (by omega)]
    · have e2 : b.drop j = [] := by rw [List.drop_eq_nil_iff]; omega
      rw [e2]
      refine Ev.step (f := fun _ => some 0) (fun k => ?_) (Ev.now _)
      simp only [slices_Compare_int_int.l0]
      rw [if_neg (by omega), if_neg (by omega)]
  | succ d ih =>
    intro j hj hjb
    have e : a.drop j = a[j] :: a.drop (j + 1) := List.drop_eq_getElem_cons (by omega)
    rw [e]
    by_cases h : j < b.length
    · have e2 : b.drop j = b[j] :: b.drop (j + 1) := List.drop_eq_getElem_cons h
      rw [e2, lexC]
      by_cases hc : cmpI a[j] b[j] = 0
      · rw [if_pos hc]
        refine Ev.step (f := fun k => slices_Compare_int_int.l0 k a b a (a.length : Int) ((j + 1 : Nat) : Int)) (fun k => ?_) (ih (j + 1) (by omega) (by omega))
        simp only [slices_Compare_int_int.l0]
        rw [rdI_is a j (by omega), rdI_is b j h, cmpf_is, Option.bind_some, if_pos (by omega), if_pos (by omega), if_pos (by omega), if_neg (by omega), if_pos (by omega), if_pos hc, IntWalk.wrap64_in ((j : Int) + 1) (by omega)]
        rfl
      · rw [if_neg hc]
        refine Ev.step (f := fun _ => some (cmpI a[j] b[j])) (fun k => ?_) (Ev.now _)
        simp only [slices_Compare_int_int.l0]
        rw [rdI_is a j (by omega), rdI_is b j h, cmpf_is, Option.bind_some, if_pos (by omega), if_pos (by omega), if_pos (by omega), if_neg (by omega), if_pos (by omega), if_neg hc]
    · have e2 : b.drop j = [] := by rw [List.drop_eq_nil_iff]; omega
      rw [e2]
      refine Ev.step (f := fun _ => some 1) (fun k => ?_) (Ev.now _)
      simp only [slices_Compare_int_int.l0]
      rw [if_pos (by omega), if_pos (by omega), if_pos (by omega), if_pos (by omega)]
theorem comp_is (a b : List Int) (ha : a.length ≤ 200) (hb : b.length ≤ 200) : ∃ k, slices_Compare_int_int.f k a b = some (lexC a b) := by
  have h := comp_ev a b ha hb a.length 0 (by omega) (by omega)
  rw [List.drop_zero, List.drop_zero] at h
  exact Ev.rounds (g := fun k => slices_Compare_int_int.f k a b) h
theorem comp_any (A B : Option Addr) (c d : Nat) (a b : List Int) (w : World) (hA : Kd.C (Kd.int .i64) w A a.length a) (hc : a.length ≤ c) (hB : Kd.C (Kd.int .i64) w B b.length b) (hd : b.length ≤ d) (ha : a.length ≤ 200) (hb : b.length ≤ 200) :
    Calls Try.prog 60 #[.slice A a.length c, .slice B b.length d] w fun e w' => e = .returned (.int .i64 (lexC a b)) ∧ Below w.heap.size w w' := by
  obtain ⟨k, hk⟩ := comp_is a b ha hb
  exact (slices_Compare_int_int.calls k A c a B d b _ w hA hc hB hd hk).mono fun e w' h => ⟨h.1, h.2.below⟩

/-- the gaps that are worth keeping, below a number -/
def worthR (hold win : Int) (gs : List S52) : Nat → List Int
  | 0 => []
  | k + 1 => if 0 < savW hold win (rd_T52 gs (k : Int)) then worthR hold win gs k ++ [(k : Int)] else worthR hold win gs k
theorem worthR_succ (hold win : Int) (gs : List S52) (k : Nat) : worthR hold win gs (k + 1) = if 0 < savW hold win (rd_T52 gs (k : Int)) then worthR hold win gs k ++ [(k : Int)] else worthR hold win gs k := rfl
theorem worthR_len (hold win : Int) (gs : List S52) : ∀ k, (worthR hold win gs k).length ≤ k
  | 0 => by simp [worthR]
  | k + 1 => by
    have := worthR_len hold win gs k
    rw [worthR_succ]
    split
    · simp; omega
    · omega
theorem worthR_mem (hold win : Int) (gs : List S52) : ∀ k, ∀ x ∈ worthR hold win gs k, 0 ≤ x ∧ x < k
  | 0, x, h => by simp [worthR] at h
  | k + 1, x, h => by
    have ih := worthR_mem hold win gs k
    rw [worthR_succ] at h
    split at h
    · rw [List.mem_append] at h
      rcases h with h | h
      · have := ih x h; omega
      · simp at h; omega
    · have := ih x h; omega
/-- the sum and the list of a set -/
def pickR (hold win : Int) (gs : List S52) (ws : List Int) (s : Int) : Nat → Int × List Int
  | 0 => (0, [])
  | k + 1 => if bitB s k = true then (wrap64 ((pickR hold win gs ws s k).1 + savW hold win (rd_T52 gs (rd ws (k : Int)))), (pickR hold win gs ws s k).2 ++ [rd ws (k : Int)]) else pickR hold win gs ws s k
theorem pickR_succ (hold win : Int) (gs : List S52) (ws : List Int) (s : Int) (k : Nat) : pickR hold win gs ws s (k + 1) = if bitB s k = true then (wrap64 ((pickR hold win gs ws s k).1 + savW hold win (rd_T52 gs (rd ws (k : Int)))), (pickR hold win gs ws s k).2 ++ [rd ws (k : Int)]) else pickR hold win gs ws s k := rfl
theorem pickR_len (hold win : Int) (gs : List S52) (ws : List Int) (s : Int) : ∀ k, (pickR hold win gs ws s k).2.length ≤ k
  | 0 => by simp [pickR]
  | k + 1 => by
    have := pickR_len hold win gs ws s k
    rw [pickR_succ]
    split
    · simp; omega
    · omega
theorem pickR_mem (hold win : Int) (gs : List S52) (ws : List Int) (s : Int) : ∀ k, k ≤ ws.length → ∀ x ∈ (pickR hold win gs ws s k).2, x ∈ ws
  | 0, _, x, h => by simp [pickR] at h
  | k + 1, hk, x, h => by
    have ih := pickR_mem hold win gs ws s k (by omega)
    rw [pickR_succ] at h
    split at h
    · simp only at h
      rw [List.mem_append] at h
      rcases h with h | h
      · exact ih x h
      · simp at h
        rw [rdI_is ws k (by omega)] at h
        rw [h]
        exact List.getElem_mem _
    · exact ih x h
open Classical in
/-- The best set below a number. -/
noncomputable def limR (hold win : Int) (gs : List S52) (ws : List Int) (n : Int) : Nat → Int × List Int
  | 0 => (-1, [])
  | s + 1 => if FitP gs (pickR hold win gs ws (s : Int) ws.length).2 n ∧ ((pickR hold win gs ws (s : Int) ws.length).1 > (limR hold win gs ws n s).1 ∨ ((pickR hold win gs ws (s : Int) ws.length).1 = (limR hold win gs ws n s).1 ∧ lexC (pickR hold win gs ws (s : Int) ws.length).2 (limR hold win gs ws n s).2 < 0)) then pickR hold win gs ws (s : Int) ws.length else limR hold win gs ws n s
theorem limR_yes {hold win : Int} {gs : List S52} {ws : List Int} {n : Int} {s : Nat} (h : FitP gs (pickR hold win gs ws (s : Int) ws.length).2 n ∧ ((pickR hold win gs ws (s : Int) ws.length).1 > (limR hold win gs ws n s).1 ∨ ((pickR hold win gs ws (s : Int) ws.length).1 = (limR hold win gs ws n s).1 ∧ lexC (pickR hold win gs ws (s : Int) ws.length).2 (limR hold win gs ws n s).2 < 0))) :
    limR hold win gs ws n (s + 1) = pickR hold win gs ws (s : Int) ws.length := by rw [limR, if_pos h]
theorem limR_no {hold win : Int} {gs : List S52} {ws : List Int} {n : Int} {s : Nat} (h : ¬ (FitP gs (pickR hold win gs ws (s : Int) ws.length).2 n ∧ ((pickR hold win gs ws (s : Int) ws.length).1 > (limR hold win gs ws n s).1 ∨ ((pickR hold win gs ws (s : Int) ws.length).1 = (limR hold win gs ws n s).1 ∧ lexC (pickR hold win gs ws (s : Int) ws.length).2 (limR hold win gs ws n s).2 < 0)))) :
    limR hold win gs ws n (s + 1) = limR hold win gs ws n s := by rw [limR, if_neg h]
theorem limR_len (hold win : Int) (gs : List S52) (ws : List Int) (n : Int) : ∀ s, (limR hold win gs ws n s).2.length ≤ ws.length
  | 0 => by simp [limR]
  | s + 1 => by
    have h1 := limR_len hold win gs ws n s
    have h2 := pickR_len hold win gs ws (s : Int) ws.length
    rw [limR]
    split
    · exact h2
    · exact h1
def LimPost (l : List S73) (hold win n : Int) (w : World) (e : Ending) (w' : World) : Prop :=
  Below w.heap.size w w' ∧ ∃ A c gs, gs.Perm (gapsOf l) ∧ gs.Pairwise (fun x y => decide (cmpGap y x < 0) = false) ∧
      e = .returned (.tuple #[.slice A (limR hold win gs (worthR hold win gs gs.length) n (2 ^ (worthR hold win gs gs.length).length)).2.length c, .int .i64 (wrap64 (wrap64 ((l.length : Int) * win) - (limR hold win gs (worthR hold win gs gs.length) n (2 ^ (worthR hold win gs gs.length).length)).1)), .int .i64 0]) ∧
      (limR hold win gs (worthR hold win gs gs.length) n (2 ^ (worthR hold win gs gs.length).length)).2.length ≤ c ∧ Kd.C (Kd.int .i64) w' A (limR hold win gs (worthR hold win gs gs.length) n (2 ^ (worthR hold win gs gs.length).length)).2.length (limR hold win gs (worthR hold win gs gs.length) n (2 ^ (worthR hold win gs gs.length).length)).2

set_option maxRecDepth 100000 in
set_option maxHeartbeats 8000000 in
theorem limited_any (A : Option Addr) (c : Nat) (l : List S73) (hold win n : Int) (w : World) (hC : Kd.C k73 w A l.length l) (hc : l.length ≤ c) (hbe : bothE l hold win = 0) (n0 : 0 ≤ n) (n1 : n ≤ 1024) (hl12 : l.length ≤ 12) :
    Calls Try.prog 41 #[.slice A l.length c, .agg #[.int .i64 hold, .int .i64 win], .int .i64 n] w (LimPost l hold win n w) := by
  have hCx := Kd.C_below hC (below_alloc (Below.refl w.heap.size w) (.cells #[.int .i64 hold, .int .i64 win] 24))
  have hbx : Below w.heap.size w (w.alloc (.cells #[.int .i64 hold, .int .i64 win] 24)) := below_alloc (Below.refl w.heap.size w) _
  have HOP := Aside0.mk (both_ok A c l hold win _ hCx hc hbe)
  have HBE := Aside0.mk hbe
  obtain ⟨hck, b0, b1, b2, b3⟩ := bothE_zero hbe
  have hgl0 := gapsOf_len l
  have HBX := Aside0.mk hbx
  have HY := Aside0.mk (blk_new w (.cells #[.int .i64 hold, .int .i64 win] 24))
  have hCS := fun (a b x y z : Int) W => policy_saved.calls a b x y z _ W rfl
  have HCS := Aside0.mk hCS
  clear hCx hC hbe hck hbx hCS
  go_enter Try.func41, Try.ntmps41
  go_wp2_with (first
    | (go_at_call 21; refine HOP.out.mono ?_; rintro e w1 ⟨T, base, gs, rfl, hp, hs, hT, hb⟩
       have hF : F11 T base (.slice A l.length c) gs l hold win w w1 := ⟨below_step HBX.out hb, blk_below HY.out hb, hT⟩
       clear hT
       have HP := Aside0.mk hp
       have HS := Aside0.mk hs
       have hgl : gs.length ≤ 12 := by rw [hp.length_eq]; omega
       have HF := Aside0.mk hF
       obtain ⟨gv, M, hbT, hTT, hG, hMb, hM⟩ := hF.2.2
       have HTT := Aside0.mk hTT
       have t0 : w1.cell? ⟨T, 0, none⟩ = some (.slice A l.length c) := (blk_cell hTT 0).trans rfl
       have t1 : w1.cell? ⟨T, 1, none⟩ = some gv := (blk_cell hTT 1).trans rfl
       have y0 : w1.cell? ⟨w.heap.size, 0, none⟩ = some (.int .i64 hold) := (blk_cell hF.2.1 0).trans rfl
       have y1 : w1.cell? ⟨w.heap.size, 1, none⟩ = some (.int .i64 win) := (blk_cell hF.2.1 1).trans rfl
       have hTl : T < w1.heap.size := blk_lt hTT
       have hYl : w.heap.size < w1.heap.size := blk_lt hF.2.1
       obtain ⟨Ag, cg, rfl, hcg, hCg⟩ := own_C52 hG
       have HCG := Aside0.mk hCg
       clear hp hs hb hF hTT hG hM hCg))
  go_loopw [10, 41] (fun v10 v41 wr => ∃ k : Nat, k ≤ gs.length ∧ v41 = .int .i64 k ∧ Aside0 (Below w1.heap.size w1 wr ∧ wr.ownsRow w1.heap.size 3 1 v10 (worthR hold win gs k).length ((worthR hold win gs k).flatMap eI))) (fun v10 v41 wr => gs.length - (intOf v41).toNat)
  case atStart => exact ⟨0, Nat.zero_le _, rfl, ⟨Below.refl _ _, own_nil _ _ _ _⟩⟩
  case round =>
    obtain ⟨k, hk, rfl, HI⟩ := hrel
    have hlen := worthR_len hold win gs k
    by_cases hlt : k < gs.length
    · obtain ⟨ad, rfl, hx0, hx1, hx2⟩ := at_T52 (Kd.C_below HCG.out HI.out.1) (k : Int) (by omega) (by omega)
      simp only [Int.toNat_natCast] at hx0 hx1 hx2
      have HR := Aside0.mk (worthR_succ hold win gs k)
      generalize worthR hold win gs k = ks at *
      generalize rd_T52 gs (k : Int) = g at *
      have HO := Aside0.mk (show wr.ownsRow w1.heap.size 3 1 _ ks.length (ks.flatMap eI) from HI.out.2)
      have HBr := Aside0.mk HI.out.1
      have hYr : w.heap.size < wr.heap.size := by have := HBr.out.size; omega
      have hz2 : w1.heap.size ≤ wr.heap.size := HBr.out.size
      have y0 : wr.cell? ⟨w.heap.size, 0, none⟩ = some (.int .i64 hold) := (blk_cell (blk_below HF.out.2.1 HBr.out) 0).trans rfl
      have y1 : wr.cell? ⟨w.heap.size, 1, none⟩ = some (.int .i64 win) := (blk_cell (blk_below HF.out.2.1 HBr.out) 1).trans rfl
      clear HI
      have HSV := Aside0.mk (show savW hold win g = wrap64 (win - wrap64 (wrap64 (g.f2 - g.f1) * hold)) from rfl)
      by_cases hsv : 0 < savW hold win g
      · rw [if_pos hsv] at HR
        rw [HSV.out] at hsv
        go_wp2_with (first
          | (go_at_call 31; refine (HCS.out _ _ _ _ _ _).mono ?_; rintro e w3 ⟨rfl, hb3⟩
             have HB3 := Aside0.mk (below_step (below_alloc (Below.refl _ _) _) hb3)
             have hz3 : w1.heap.size ≤ w3.heap.size := Nat.le_trans hz2 HB3.out.size
             clear hb3)
          | (at_builtin; go_loud (refine wp_appM (w0 := w1) (W := w3) w1.heap.size 1 (by rfl) _ _ 33 3 _ 1 8 (by rfl) Try.underlying33 info3x (by rfl) (by omega) (by omega) _ ks.length (ks.flatMap eI) [.int .i64 (k : Int)] (by rfl) (by rfl) (by rfl) (by intro y hy; simp at hy; subst hy; rfl) (pw_own_below HO.out HB3.out) (below_step HBr.out HB3.out) hz3 (by omega) ?_); intro v1 w4 hown hbel hgr hat))
        go_roundw
        case rel =>
          refine ⟨k + 1, by omega, by go_num, ⟨hbel, ?_⟩⟩
          rw [HR.out]
          simp only [List.length_append, List.flatMap_append]
          exact hown
        case measure => simp [intOf]; omega
      · rw [if_neg hsv] at HR
        rw [HSV.out] at hsv
        go_wp2_with (go_at_call 31; refine (HCS.out _ _ _ _ _ _).mono ?_; rintro e w3 ⟨rfl, hb3⟩)
        have hb5 := below_step (below_alloc (Below.refl wr.heap.size wr) _) hb3
        go_roundw
        case rel =>
          refine ⟨k + 1, by omega, by go_num, ⟨below_step HBr.out hb5, ?_⟩⟩
          rw [HR.out]
          exact pw_own_below HO.out hb5
        case measure => simp [intOf]; omega
    · obtain rfl : k = gs.length := by omega
      obtain ⟨Aw, cw, hvo, hcw, hCw⟩ := own_CI HI.out.2
      subst hvo
      have HCW := Aside0.mk hCw
      have HFW := Aside0.mk (HF.out.step HI.out.1)
      have HBW := Aside0.mk HI.out.1
      have HCGW := Aside0.mk (Kd.C_below HCG.out HI.out.1)
      have HTW := Aside0.mk (blk_below HTT.out HI.out.1)
      have hwm := worthR_mem hold win gs gs.length
      have HWM := Aside0.mk hwm
      clear HI hCw hlt hwm
      obtain ⟨ws, hws⟩ : ∃ ws, worthR hold win gs gs.length = ws := ⟨_, rfl⟩
      have HWS := Aside0.mk hws
      rw [hws] at hlen hcw HCW HWM
      obtain ⟨w0, hw0⟩ : ∃ w0, w0 = wr := ⟨_, rfl⟩
      subst hw0
      rw [hws]
      clear hws
      go_wp2
      obtain ⟨Np, hNp⟩ : ∃ Np : Nat, 2 ^ ws.length = Np := ⟨_, rfl⟩
      have hNb : Np ≤ 4096 := by
        rw [← hNp]
        exact Nat.pow_le_pow_right (n := 2) (by omega) (show ws.length ≤ 12 by omega)
      have hNw : wrap64 ((2 : Int) ^ ws.length) = (Np : Int) := by
        have : ((2 : Int) ^ ws.length) = ((2 ^ ws.length : Nat) : Int) := by simp
        rw [this, hNp]
        exact IntWalk.wrap64_in _ (by omega)
      rw [hNw]
      have HNP := Aside0.mk hNp
      clear hNp hNw
      go_loopw [6, 13, 61] (fun v6 v13 v61 wr => ∃ (s : Nat) (Ak : Option Addr) (ck : Nat), s ≤ Np ∧ v61 = .int .i64 s ∧ v13 = .int .i64 (limR hold win gs ws n s).1 ∧ v6 = .slice Ak (limR hold win gs ws n s).2.length ck ∧ (limR hold win gs ws n s).2.length ≤ ck ∧ Aside0 (Below w0.heap.size w0 wr ∧ Kd.C (Kd.int .i64) wr Ak (limR hold win gs ws n s).2.length (limR hold win gs ws n s).2)) (fun v6 v13 v61 wr => Np - (intOf v61).toNat)
      case atStart => exact ⟨0, none, 0, Nat.zero_le _, rfl, rfl, rfl, Nat.le_refl _, ⟨Below.refl _ _, rfl, Nat.zero_le _, fun h => absurd h (Nat.lt_irrefl 0)⟩⟩
      case round =>
        obtain ⟨s, Ak, ck, hs, rfl, rfl, rfl, hck, HI⟩ := hrel
        have hll := limR_len hold win gs ws n s
        by_cases hlt : s < Np
        · have HLY := Aside0.mk (@limR_yes hold win gs ws n s)
          have HLN := Aside0.mk (@limR_no hold win gs ws n s)
          generalize limR hold win gs ws n s = st at *
          obtain ⟨sb, sk⟩ := st
          simp only at hck hll
          have HKP := Aside0.mk HI.out.2
          have HBo := Aside0.mk HI.out.1
          clear HI
          obtain ⟨wi, hwi⟩ : ∃ wi : World, wi = wr := ⟨_, rfl⟩
          subst hwi
          have hzi : w0.heap.size ≤ wi.heap.size := HBo.out.size
          go_wp2
          go_loopw [15, 16, 66] (fun v15 v16 v66 wr => ∃ k : Nat, k ≤ ws.length ∧ v66 = .int .i64 k ∧ v16 = .int .i64 (pickR hold win gs ws s k).1 ∧ Aside0 (Below wi.heap.size wi wr ∧ wr.ownsRow wi.heap.size 3 1 v15 (pickR hold win gs ws s k).2.length ((pickR hold win gs ws s k).2.flatMap eI))) (fun v15 v16 v66 wr => ws.length - (intOf v66).toNat)
          case atStart => exact ⟨0, Nat.zero_le _, rfl, rfl, ⟨Below.refl _ _, own_nil _ _ _ _⟩⟩
          case round =>
            obtain ⟨k, hk, rfl, rfl, HI⟩ := hrel
            have hpl := pickR_len hold win gs ws s k
            by_cases hlk : k < ws.length
            · obtain ⟨ak, rfl, hxk⟩ := Kd.at_int (Kd.C_below HCW.out (below_step HBo.out HI.out.1)) (k : Int) (by omega) (by omega)
              simp only [Int.toNat_natCast] at hxk
              have hj := HWM.out (ws[k]) (List.getElem_mem hlk)
              rw [← rdI_is ws k hlk] at hj
              have HPS := Aside0.mk (pickR_succ hold win gs ws s k)
              have hbit := bit_is (s : Int) k (by omega) (by omega)
              generalize pickR hold win gs ws s k = pk at *
              obtain ⟨sm, so⟩ := pk
              simp only at hpl
              generalize rd ws (k : Int) = j at *
              have HO := Aside0.mk HI.out.2
              have HBi := Aside0.mk HI.out.1
              have hzr : wi.heap.size ≤ wr.heap.size := HI.out.1.size
              clear HI
              cases hb : bitB (s : Int) k with
              | true =>
                rw [hb] at hbit HPS
                rw [if_pos rfl] at HPS
                clear hb
                go_wp2_with (at_builtin; go_loud (refine wp_appM (w0 := wi) (W := wr) wi.heap.size 1 (by rfl) _ _ 33 3 _ 1 8 (by rfl) Try.underlying33 info3x (by rfl) (by omega) (by omega) _ so.length (so.flatMap eI) [.int .i64 j] (by rfl) (by rfl) (by rfl) (by intro y hy; simp at hy; subst hy; rfl) HO.out HBi.out hzr (by omega) ?_); intro v1 w4 hown hbel hgr hat)
                have HB4 := Aside0.mk (below_step (below_step HBW.out HBo.out) hbel)
                have HO4 := Aside0.mk hown
                have HBi4 := Aside0.mk hbel
                have t1 : w4.cell? ⟨T, 1, none⟩ = some (.slice Ag gs.length cg) := (blk_cell (blk_below HTT.out HB4.out) 1).trans rfl
                have y0 : w4.cell? ⟨w.heap.size, 0, none⟩ = some (.int .i64 hold) := (blk_cell (blk_below HF.out.2.1 HB4.out) 0).trans rfl
                have y1 : w4.cell? ⟨w.heap.size, 1, none⟩ = some (.int .i64 win) := (blk_cell (blk_below HF.out.2.1 HB4.out) 1).trans rfl
                have hTl4 : T < w4.heap.size := blk_lt (blk_below HTT.out HB4.out)
                have hYl4 : w.heap.size < w4.heap.size := blk_lt (blk_below HF.out.2.1 HB4.out)
                obtain ⟨ag, rfl, hx0, hx1, hx2⟩ := at_T52 (Kd.C_below HCG.out HB4.out) j hj.1 hj.2
                have HJ := Aside0.mk hj
                obtain ⟨g, hgj⟩ : ∃ g, rd_T52 gs j = g := ⟨_, rfl⟩
                have HGJ := Aside0.mk hgj
                rw [hgj] at hx0 hx1 hx2 HPS
                clear hgj
                have HSV := Aside0.mk (show savW hold win g = wrap64 (win - wrap64 (wrap64 (g.f2 - g.f1) * hold)) from rfl)
                clear hown hbel hgr hat
                go_region_held3 (fun w' => w'.cell? ⟨T, 1, none⟩ = some (.slice (some ag) gs.length cg) ∧ w'.cell? ⟨w.heap.size, 0, none⟩ = some (.int .i64 hold) ∧ w'.cell? ⟨w.heap.size, 1, none⟩ = some (.int .i64 win) ∧ w'.cell? (ag.add (j.toNat * 3)) = some (.int .i64 g.f0) ∧ w'.cell? ⟨(ag.add (j.toNat * 3)).block, (ag.add (j.toNat * 3)).off + 1, none⟩ = some (.int .i64 g.f1) ∧ w'.cell? ⟨(ag.add (j.toNat * 3)).block, (ag.add (j.toNat * 3)).off + 2, none⟩ = some (.int .i64 g.f2))
                  (first | go_keep | (refine ⟨?_, ?_, ?_, ?_, ?_, ?_⟩ <;> first | assumption | go_simp))
                  ((go_at_call 31; refine (HCS.out _ _ _ _ _ _).mono ?_; rintro e w5 ⟨rfl, hb5⟩
                    have HB5 := Aside0.mk (below_step (show Below w4.heap.size w4 _ by repeat (first | exact Below.refl _ _ | apply below_drew | apply pw_below_drewN)) hb5)
                    have HB6 := Aside0.mk (below_step HB4.out HB5.out)
                    have t1 : w5.cell? ⟨T, 1, none⟩ = some (.slice (some ag) gs.length cg) := (blk_cell (blk_below HTT.out HB6.out) 1).trans rfl
                    have y0 : w5.cell? ⟨w.heap.size, 0, none⟩ = some (.int .i64 hold) := (blk_cell (blk_below HF.out.2.1 HB6.out) 0).trans rfl
                    have y1 : w5.cell? ⟨w.heap.size, 1, none⟩ = some (.int .i64 win) := (blk_cell (blk_below HF.out.2.1 HB6.out) 1).trans rfl
                    obtain ⟨ag2, he2, hx0, hx1, hx2⟩ := at_T52 (Kd.C_below HCG.out HB6.out) j HJ.out.1 HJ.out.2
                    injection he2 with he2
                    subst he2
                    rw [HGJ.out] at hx0 hx1 hx2
                    clear hb5
                    dsimp only))
                go_wp2
                go_roundw
                case rel =>
                  refine ⟨k + 1, by omega, by go_num, ?_, ⟨below_step HBi4.out HB5.out, ?_⟩⟩
                  · rw [HPS.out, HSV.out]; simp only [IntWalk.i64_left]
                  · rw [HPS.out]
                    simp only [List.length_append, List.flatMap_append]
                    exact pw_own_below HO4.out HB5.out
                case measure => simp [intOf]; omega
              | false =>
                rw [hb] at hbit HPS
                rw [if_neg (by decide)] at HPS
                clear hb
                go_wp2
                go_roundw
                case rel => exact ⟨k + 1, by omega, by go_num, by rw [HPS.out], ⟨HBi.out, by rw [HPS.out]; exact HO.out⟩⟩
                case measure => simp [intOf]; omega
            · obtain rfl : k = ws.length := by omega
              have HMEM := Aside0.mk (fun x hx => HWM.out x (pickR_mem hold win gs ws s ws.length (Nat.le_refl _) x hx))
              generalize pickR hold win gs ws s ws.length = pk at *
              obtain ⟨sm, so⟩ := pk
              simp only at hpl
              obtain ⟨Ao, co, hvo, hco, hCo⟩ := own_CI HI.out.2
              subst hvo
              have HCO := Aside0.mk hCo
              have HBi := Aside0.mk HI.out.1
              have HBa := Aside0.mk (below_step (below_step HBW.out HBo.out) HI.out.1)
              have HBb := Aside0.mk (below_step HBo.out HI.out.1)
              have HKPi := Aside0.mk (Kd.C_below HKP.out HI.out.1)
              clear HI hCo
              have hfit := fun W (hW : Below wr.heap.size wr W) => fit_any T _ _ _ Ag cg gs Ao co so n W (blk_below HTT.out (below_step HBa.out hW)) (Kd.C_below HCG.out (below_step HBa.out hW)) (Kd.C_below HCO.out hW) hco (by omega) HMEM.out
              have hcmp := fun W (hW : Below wr.heap.size wr W) => comp_any Ao Ak co ck so sk W (Kd.C_below HCO.out hW) hco (Kd.C_below HKPi.out hW) hck (by omega) (by omega)
              by_cases hFP : FitP gs so n
              · have HFT : Aside0 (∀ W, Below wr.heap.size wr W → Calls Try.prog 59 #[.pointer (some ⟨T, 0, none⟩), .slice Ao so.length co, .int .i64 n] W fun e w' => e = .returned (.bool true) ∧ Below W.heap.size W w') :=
                  ⟨fun W hW => (hfit W hW).mono fun e w' h => by
                    obtain ⟨h1, h2 | h2⟩ := h
                    · exact ⟨h2.2, h1⟩
                    · exact absurd hFP h2.1⟩
                have HFP := Aside0.mk hFP
                clear hfit hFP
                by_cases hgt : sb < sm
                · have HST := Aside0.mk (HLY.out ⟨HFP.out, .inl hgt⟩)
                  clear hcmp
                  go_wp2_with (go_at_call 59; refine (HFT.out _ (Below.refl _ _)).mono ?_; rintro e w5 ⟨rfl, hb5⟩)
                  go_roundw
                  case rel => exact ⟨s + 1, Ao, co, by omega, by go_num, by rw [HST.out], by rw [HST.out], by rw [HST.out]; exact hco, ⟨below_step HBb.out hb5, by rw [HST.out]; exact Kd.C_below HCO.out hb5⟩⟩
                  case measure => simp [intOf]; omega
                · by_cases heq : sm = sb
                  · have hq : (sm == sb) = true := by simpa using heq
                    have hC2 : Aside0 (∀ W, Below wr.heap.size wr W → Calls Try.prog 60 #[.slice Ao so.length co, .slice Ak sk.length ck] W fun e w' => e = .returned (.int .i64 (lexC so sk)) ∧ Below W.heap.size W w') := ⟨hcmp⟩
                    have HEQ := Aside0.mk heq
                    by_cases hlx : lexC so sk < 0
                    · have HST := Aside0.mk (HLY.out ⟨HFP.out, .inr ⟨heq, hlx⟩⟩)
                      clear hcmp heq
                      generalize lexC so sk = lx at *
                      go_wp2_with (first
                        | (go_at_call 59; refine (HFT.out _ (Below.refl _ _)).mono ?_; rintro e w5 ⟨rfl, hb5⟩)
                        | (go_at_call 60; refine (hC2.out _ hb5).mono ?_; rintro e w6 ⟨rfl, hb6⟩))
                      go_roundw
                      case rel => exact ⟨s + 1, Ao, co, by omega, by go_num, by rw [HST.out], by rw [HST.out], by rw [HST.out]; exact hco, ⟨below_step HBb.out (below_step hb5 hb6), by rw [HST.out]; exact Kd.C_below HCO.out (below_step hb5 hb6)⟩⟩
                      case measure => simp [intOf]; omega
                    · have HST := Aside0.mk (HLN.out (fun h => by simp only at h; have := HEQ.out; omega))
                      clear hcmp heq
                      generalize lexC so sk = lx at *
                      go_wp2_with (first
                        | (go_at_call 59; refine (HFT.out _ (Below.refl _ _)).mono ?_; rintro e w5 ⟨rfl, hb5⟩)
                        | (go_at_call 60; refine (hC2.out _ hb5).mono ?_; rintro e w6 ⟨rfl, hb6⟩))
                      go_roundw
                      case rel => exact ⟨s + 1, Ak, ck, by omega, by go_num, by rw [HST.out], by rw [HST.out], by rw [HST.out]; exact hck, ⟨below_step HBb.out (below_step hb5 hb6), by rw [HST.out]; exact Kd.C_below HKPi.out (below_step hb5 hb6)⟩⟩
                      case measure => simp [intOf]; omega
                  · have hq : (sm == sb) = false := by simpa using heq
                    have HEQ := Aside0.mk heq
                    have HST := Aside0.mk (HLN.out (fun h => by simp only at h; have := HEQ.out; omega))
                    clear hcmp heq
                    go_wp2_with (go_at_call 59; refine (HFT.out _ (Below.refl _ _)).mono ?_; rintro e w5 ⟨rfl, hb5⟩)
                    go_roundw
                    case rel => exact ⟨s + 1, Ak, ck, by omega, by go_num, by rw [HST.out], by rw [HST.out], by rw [HST.out]; exact hck, ⟨below_step HBb.out hb5, by rw [HST.out]; exact Kd.C_below HKPi.out hb5⟩⟩
                    case measure => simp [intOf]; omega
              · have HFT : Aside0 (∀ W, Below wr.heap.size wr W → Calls Try.prog 59 #[.pointer (some ⟨T, 0, none⟩), .slice Ao so.length co, .int .i64 n] W fun e w' => e = .returned (.bool false) ∧ Below W.heap.size W w') :=
                  ⟨fun W hW => (hfit W hW).mono fun e w' h => by
                    obtain ⟨h1, h2 | h2⟩ := h
                    · exact absurd h2.1 hFP
                    · exact ⟨h2.2, h1⟩⟩
                have HST := Aside0.mk (HLN.out (fun h => hFP h.1))
                clear hfit hFP hcmp
                go_wp2_with (go_at_call 59; refine (HFT.out _ (Below.refl _ _)).mono ?_; rintro e w5 ⟨rfl, hb5⟩)
                go_roundw
                case rel => exact ⟨s + 1, Ak, ck, by omega, by go_num, by rw [HST.out], by rw [HST.out], by rw [HST.out]; exact hck, ⟨below_step HBb.out hb5, by rw [HST.out]; exact Kd.C_below HKPi.out hb5⟩⟩
                case measure => simp [intOf]; omega
        · obtain rfl : s = Np := by omega
          have HBa := Aside0.mk (below_step HBW.out HI.out.1)
          have t0 : wr.cell? ⟨T, 0, none⟩ = some (.slice A l.length c) := (blk_cell (blk_below HTT.out HBa.out) 0).trans rfl
          have hTl2 : T < wr.heap.size := blk_lt (blk_below HTT.out HBa.out)
          have y0 : wr.cell? ⟨w.heap.size, 0, none⟩ = some (.int .i64 hold) := (blk_cell (blk_below HF.out.2.1 HBa.out) 0).trans rfl
          have y1 : wr.cell? ⟨w.heap.size, 1, none⟩ = some (.int .i64 win) := (blk_cell (blk_below HF.out.2.1 HBa.out) 1).trans rfl
          have hYl2 : w.heap.size < wr.heap.size := blk_lt (blk_below HF.out.2.1 HBa.out)
          have HKP := Aside0.mk HI.out.2
          have HFI : Aside0 (∀ W, Below wr.heap.size wr W → LimPost l hold win n w (.returned (.tuple #[.slice Ak (limR hold win gs ws n s).2.length ck, .int .i64 (wrap64 (wrap64 ((l.length : Int) * win) - (limR hold win gs ws n s).1)), .int .i64 0])) W) := by
            refine ⟨fun W hW => ⟨below_step HF.out.1 (below_step HBa.out hW), Ak, ck, gs, HP.out, HS.out, ?_, ?_, ?_⟩⟩
            · rw [HWS.out, HNP.out]
            · rw [HWS.out, HNP.out]; exact hck
            · rw [HWS.out, HNP.out]; exact Kd.C_below HKP.out hW
          clear HI
          generalize limR hold win gs ws n s = st at *
          obtain ⟨sb, sk⟩ := st
          go_wp2_with (go_at_call 30; refine (dropped_any T l.length c A hold win _ t0 (by omega) hTl2).mono ?_; rintro e w6 ⟨rfl, hb6⟩)
          go_ret3
          exact HFI.out _ hb6
end Go.Proofs.Ytdkfmbammdmohaa.PPolicyCosts

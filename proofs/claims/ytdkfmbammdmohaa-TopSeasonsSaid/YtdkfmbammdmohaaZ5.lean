/- policy.aged and the cost of a rule that holds for an age. -/
import Derived.Test.YtdkfmbammdmohaaZ3
import Derived.Laws.EntriesVeiled
import Derived.IntWalk
import Derived.Laws.ResultCell
import Derived.Deep.DeepMust
import Derived.Test.YtdkfmbammdmohaaZ4
import Derived.OwnWalk
import Derived.BigQuiet
namespace Go.Proofs.Ytdkfmbammdmohaa.PPolicyCosts
open Go.RowKit Go.Proofs.YtdkfmbammdmohaaW.PrintWords Go.Proofs.YtdkfmbammdmohaaW.PrintLast Go.Proofs.YtdkfmbammdmohaaW.PrintMore
open Go.Proofs.YtdkfmbammdmohaaM Go.Proofs.YtdkfmbammdmohaaS
attribute [local go_sem] max2_int min2_int max_two min_two max_three min_three max_four min_four
set_option linter.unusedVariables false
set_option linter.unusedSimpArgs false

/-- What aged comes to: a closure over a box that holds the age. -/
def AgedPost (age : Int) (w : World) (e : Ending) (w' : World) : Prop :=
  ∃ B, e = .returned (.agg #[.func (.func 43) #[] #[.pointer (some ⟨B, 0, none⟩)]]) ∧ w.heap.size ≤ B ∧ w'.heap[B]? = some (.cells #[.int .i64 age] 2 (0, 0)) ∧ Below w.heap.size w w'

theorem aged_any (age : Int) (w : World) : Calls Try.prog 23 #[.int .i64 age] w (AgedPost age w) := by
  go_enter Try.func23, Try.ntmps23
  go_wp2
  refine bodyPost_ret (v := .agg #[.func (.func 43) #[] #[.pointer (some ⟨w.heap.size, 0, none⟩)]]) (by simp [results, Try.results23, go_sem]) rfl ⟨w.heap.size, rfl, Nat.le_refl _, ?_, ?_⟩
  · with_reducible repeat (first | exact blk_new _ _ | refine blk_alloc ?_ _)
  · repeat (first | exact Below.refl _ _ | apply below_drew | apply below_alloc)

/-- what a gap costs, held for an age -/
def gapC (hold win age : Int) (g : S52) : Int := mn age (g.f2 - g.f1) * hold + (if mn age (g.f2 - g.f1) < g.f2 - g.f1 then win else 0)
def sumG (hold win age : Int) (gs : List S52) : Int := (gs.map (gapC hold win age)).sum
theorem sumG_snoc (hold win age : Int) (gs : List S52) (g : S52) : sumG hold win age (gs ++ [g]) = sumG hold win age gs + gapC hold win age g := by
  simp [sumG]
/-- a gap of a proper trace -/
def okG (g : S52) : Prop := 0 ≤ g.f1 ∧ g.f1 < g.f2 ∧ g.f2 ≤ 1000000000
theorem mul_bd {a b A B : Int} (h0 : 0 ≤ a) (h1 : a ≤ A) (h2 : 0 ≤ b) (h3 : b ≤ B) : 0 ≤ a * b ∧ a * b ≤ A * B :=
  ⟨Int.mul_nonneg h0 h2, Int.le_trans (Int.mul_le_mul_of_nonneg_right h1 h2) (Int.mul_le_mul_of_nonneg_left h3 (by omega))⟩
theorem gapC_bd {hold win age : Int} {g : S52} (hg : okG g) (h0 : 0 ≤ hold) (h1 : hold ≤ 1000) (w0 : 0 ≤ win) (w1 : win ≤ 1000000000) (a0 : 0 ≤ age) : 0 ≤ gapC hold win age g ∧ gapC hold win age g ≤ 1001000000000 := by
  obtain ⟨g0, g1, g2⟩ := hg
  have hm : 0 ≤ mn age (g.f2 - g.f1) ∧ mn age (g.f2 - g.f1) ≤ 1000000000 := by unfold mn; split <;> omega
  have := mul_bd hm.1 hm.2 h0 h1
  unfold gapC
  split <;> omega
theorem sumG_bd {hold win age : Int} (h0 : 0 ≤ hold) (h1 : hold ≤ 1000) (w0 : 0 ≤ win) (w1 : win ≤ 1000000000) (a0 : 0 ≤ age) : ∀ (gs : List S52), (∀ g ∈ gs, okG g) → 0 ≤ sumG hold win age gs ∧ sumG hold win age gs ≤ 1001000000000 * gs.length
  | [], _ => by simp [sumG]
  | g :: gs, h => by
    have ih := sumG_bd h0 h1 w0 w1 a0 gs (fun x hx => h x (List.mem_cons_of_mem _ hx))
    have hb := gapC_bd (h g (List.mem_cons_self ..)) h0 h1 w0 w1 a0
    simp only [sumG, List.map_cons, List.sum_cons, List.length_cons] at ih ⊢
    omega
/-- what the tails of some pages cost -/
def sumT (hold age e : Int) (f : Int → Option Int) (ks : List Int) : Int := (ks.map fun p => mn age (e - (f p).getD 0) * hold).sum
theorem sumT_bd {hold age e : Int} {f : Int → Option Int} (h0 : 0 ≤ hold) (h1 : hold ≤ 1000) (a0 : 0 ≤ age) (he : e ≤ 1000000000) (hf : ∀ p y, f p = some y → 0 ≤ y ∧ y ≤ e) : ∀ (ks : List Int), (∀ p ∈ ks, (f p).isSome = true) → 0 ≤ sumT hold age e f ks ∧ sumT hold age e f ks ≤ 1000000000000 * ks.length
  | [], _ => by simp [sumT]
  | p :: ks, h => by
    have ih := sumT_bd h0 h1 a0 he hf ks (fun x hx => h x (List.mem_cons_of_mem _ hx))
    have hp := h p (List.mem_cons_self ..)
    cases hfp : f p with
    | none => rw [hfp] at hp; cases hp
    | some y =>
      have hy := hf p y hfp
      have hm : 0 ≤ mn age (e - y) ∧ mn age (e - y) ≤ 1000000000 := by unfold mn; split <;> omega
      have := mul_bd hm.1 hm.2 h0 h1
      simp only [sumT, List.map_cons, List.sum_cons, List.length_cons, hfp, Option.getD_some] at ih ⊢
      omega

/-- What cost comes to. -/
def CostPost (hold win age e : Int) (gs : List S52) (f : Int → Option Int) (cnt : Nat) (w : World) (en : Ending) (w' : World) : Prop :=
  Below w.heap.size w w' ∧ ∃ ks : List Int, ks.Nodup ∧ (∀ p, p ∈ ks ↔ (f p).isSome = true) ∧ en = .returned (.int .i64 (cnt * win + sumG hold win age gs + sumT hold age e f ks))

def CostW (T M B cb rb base : Nat) (lv gv : Value) (gs : List S52) (f : Int → Option Int) (cnt : Nat) (e hold win age : Int) (w wq : World) : Prop :=
  Below w.heap.size w wq ∧ wq.heap[T]? = some (.cells #[lv, gv, .map (some M), .int .i64 e] 71 (0, 0)) ∧ wq.ownsRow base 52 3 gv gs.length (gs.flatMap e52) ∧ IM Try.prog 3 elInt wq M f cnt 1000 ∧
    wq.heap[B]? = some (.cells #[.int .i64 age] 2 (0, 0)) ∧ wq.heap[cb]? = some (.cells #[.int .i64 hold, .int .i64 win] 24 (0, 0)) ∧ wq.heap[rb]? = some (.cells #[.func (.func 43) #[] #[.pointer (some ⟨B, 0, none⟩)]] 60 (0, 0))

theorem reps_flat {α : Type} {R : α → List Value → Prop} {k : Nat} (enc : α → List Value) (hR : ∀ x, R x (enc x)) (hk : ∀ x, (enc x).length = k) : ∀ (l pre : List α), Reps R k pre (pre.flatMap enc) → Reps R k (pre ++ l) ((pre ++ l).flatMap enc)
  | [], pre, h => by simpa using h
  | x :: l, pre, h => by
    have h2 := Reps.snoc h (hR x) (hk x)
    have h3 := reps_flat enc hR hk l (pre ++ [x]) (by simpa using h2)
    simpa using h3
theorem own_C52 {w : World} {base : Nat} {gv : Value} {gs : List S52} (h : w.ownsRow base 52 3 gv gs.length (gs.flatMap e52)) : ∃ A c, gv = .slice A gs.length c ∧ gs.length ≤ c ∧ Kd.C k52 w A gs.length gs := by
  have hr : Reps (k52.K w) 3 gs (gs.flatMap e52) := by
    have := reps_flat (R := k52.K w) (k := 3) e52 (fun x => k52_mk w x) (fun _ => rfl) gs [] (Reps.none _ _)
    simpa using this
  obtain ⟨A, c, rfl, hrow⟩ := own_reads_row h hr rfl
  exact ⟨A, c, rfl, own_le h, hrow⟩
/-- The tails' loop at a round's head. -/
def RInv (T M B cb rb base r : Nat) (lv gv : Value) (gs : List S52) (f : Int → Option Int) (cnt : Nat) (e hold win age N0 : Int) (w : World) (v7 : Value) (wx : World) : Prop :=
  ∃ (dn : List Int) (left : Int → Bool) (cl : Nat), dn.Nodup ∧ (∀ p ∈ dn, (f p).isSome = true) ∧ IR Try.prog 3 elInt wx M r f left cl ∧ (∀ p, left p = ((f p).isSome && !dn.contains p)) ∧ dn.length + cl ≤ cnt ∧ v7 = .int .i64 (N0 + sumT hold age e f dn) ∧ CostW T M B cb rb base lv gv gs f cnt e hold win age w wx

theorem CostW.keep {T M B cb rb base r : Nat} {lv gv : Value} {gs : List S52} {f : Int → Option Int} {cnt : Nat} {e hold win age : Int} {w wx wy : World} (h : CostW T M B cb rb base lv gv gs f cnt e hold win age w wx) (hg : wx.grownBy wy (some r))
    (hT : T ≠ r) (hM : M ≠ r) (hB : B ≠ r) (hc : cb ≠ r) (hr : rb ≠ r) (hw : w.heap.size ≤ r) (hgv : gv.ownBlock = none ∨ gv.ownBlock ≠ some r) : CostW T M B cb rb base lv gv gs f cnt e hold win age w wy := by
  obtain ⟨h1, h2, h3, h4, h5, h6, h7⟩ := h
  have ne : ∀ {k : Nat}, k ≠ r → some k ≠ some r := fun hk e => hk (by injection e)
  exact ⟨h1.grown hg h1.size (fun k hk => by injection hk with hk; omega), blk_grown h2 hg (ne hT), own_other h3 hg hgv, h4.kept hg (ne hM), blk_grown h5 hg (ne hB), blk_grown h6 hg (ne hc), blk_grown h7 hg (ne hr)⟩

theorem RInv.drew {T M B cb rb base r : Nat} {lv gv : Value} {gs : List S52} {f : Int → Option Int} {cnt : Nat} {e hold win age N0 : Int} {w : World} {v7 : Value} {wx : World} (h : RInv T M B cb rb base r lv gv gs f cnt e hold win age N0 w v7 wx) : RInv T M B cb rb base r lv gv gs f cnt e hold win age N0 w v7 wx.drew := by
  obtain ⟨dn, left, cl, h1, h2, h3, h4, h5, h6, h7, h8, h9, h10, h11⟩ := h
  exact ⟨dn, left, cl, h1, h2, h3, h4, h5, h6, below_drew h7, h8, h9, h10.block rfl, h11⟩


set_option maxRecDepth 100000 in
set_option maxHeartbeats 4000000 in
theorem cost_any (T B base : Nat) (lv : Value) (gs : List S52) (f : Int → Option Int) (cnt : Nat) (e hold win age : Int) (w : World) (hT : TraceAt w base T lv gs f cnt e) (hB : w.heap[B]? = some (.cells #[.int .i64 age] 2 (0, 0)))
    (h0 : 0 ≤ hold) (h1 : hold ≤ 1000) (w0 : 0 ≤ win) (w1 : win ≤ 1000000000) (a0 : 0 ≤ age) (hgs : ∀ g ∈ gs, okG g) (hgl : gs.length ≤ 200) (hcl : cnt ≤ 200) (he : e ≤ 1000000000) (hf : ∀ p y, f p = some y → 0 ≤ y ∧ y ≤ e) :
    Calls Try.prog 22 #[.pointer (some ⟨T, 0, none⟩), .agg #[.int .i64 hold, .int .i64 win], .agg #[.func (.func 43) #[] #[.pointer (some ⟨B, 0, none⟩)]]] w (CostPost hold win age e gs f cnt w) := by
  obtain ⟨gv, M, hb, hT, hG, hMb, hM⟩ := hT
  obtain ⟨Ag, cg, rfl, hcg, hCg⟩ := own_C52 hG
  have HCG := Aside0.mk hCg
  clear hCg
  have HF := Aside0.mk hf
  have HGS := Aside0.mk hgs
  have HT := Aside0.mk hT
  have HG := Aside0.mk hG
  have HM := Aside0.mk hM
  have HB := Aside0.mk hB
  clear hf hgs hT hG hM hB
  go_enter Try.func22, Try.ntmps22
  go_wp2
  refine genW (CostW T M B w.heap.size (w.heap.size + 1) base lv (.slice Ag gs.length cg) gs f cnt e hold win age w) ?_ ?_
  · have hW : Below w.heap.size w ((w.alloc (.cells #[.int .i64 hold, .int .i64 win] 24)).alloc (.cells #[.func (.func 43) #[] #[.pointer (some ⟨B, 0, none⟩)]] 60)) := by repeat (first | exact Below.refl _ _ | apply below_drew | apply below_alloc)
    refine ⟨hW, blk_below HT.out hW, pw_own_below HG.out hW, HM.out.block (hW.block M HM.out.lt), blk_below HB.out hW, ?_, ?_⟩
    · with_reducible repeat (first | exact blk_new _ _ | refine blk_alloc ?_ _)
    · have := blk_new (w.alloc (.cells #[.int .i64 hold, .int .i64 win] 24)) (.cells #[.func (.func 43) #[] #[.pointer (some ⟨B, 0, none⟩)]] 60)
      simpa using this
  rintro wq ⟨hBq, hTq, hGq, hMq, hBB, hcq, hrq⟩
  have hmw := mul_bd (a := (cnt : Int)) (b := win) (A := 200) (B := 1000000000) (by omega) (by omega) w0 w1
  have hwm : IntKind.i64.wrap ((cnt : Int) * win) = (cnt : Int) * win := IntWalk.i64_in _ (by omega)
  have hln : (Builtin.len_ #[69] 3 #[.map (some M)]).run Try.prog wq.drew = .ok (.int .i64 cnt) wq.drew := (hMq.block (w' := wq.drew) rfl).len Try.underlying69 3
  have t1 : wq.cell? ⟨T, 1, none⟩ = some (.slice Ag gs.length cg) := (blk_cell hTq 1).trans rfl
  have t2 : wq.cell? ⟨T, 2, none⟩ = some (.map (some M)) := (blk_cell hTq 2).trans rfl
  have c0 : wq.cell? ⟨w.heap.size, 0, none⟩ = some (.int .i64 hold) := (blk_cell hcq 0).trans rfl
  have c1 : wq.cell? ⟨w.heap.size, 1, none⟩ = some (.int .i64 win) := (blk_cell hcq 1).trans rfl
  have HTq := Aside0.mk hTq
  have HGq := Aside0.mk hGq
  have HMq := Aside0.mk hMq
  have HBB := Aside0.mk hBB
  have Hcq := Aside0.mk hcq
  have Hrq := Aside0.mk hrq
  have HBq := Aside0.mk hBq
  clear hTq hGq hMq hBB hcq hrq hBq
  go_region_held3 (fun w' => w'.cell? ⟨T, 2, none⟩ = some (.map (some M)) ∧ w'.cell? ⟨w.heap.size, 1, none⟩ = some (.int .i64 win) ∧ (Builtin.len_ #[69] 3 #[.map (some M)]).run Try.prog w' = .ok (.int .i64 cnt) w')
    (first | go_keep | (refine ⟨?_, ?_, ?_⟩ <;> first | assumption | go_simp)) (fail)
  go_wp2
  refine genW (CostW T M B w.heap.size (w.heap.size + 1) base lv (.slice Ag gs.length cg) gs f cnt e hold win age w) ⟨below_drew HBq.out, HTq.out, HGq.out, HMq.out.block rfl, HBB.out, Hcq.out, Hrq.out⟩ ?_
  clear hln t1 t2 c0 c1 HTq HGq HMq HBB Hcq Hrq HBq
  rintro w2 HW
  have HW := Aside0.mk HW
  have HMW := Aside0.mk hmw
  clear hmw
  go_loopw [7, 27] (fun v7 v27 wr => ∃ k : Nat, k ≤ gs.length ∧ v27 = .int .i64 k ∧ v7 = .int .i64 (cnt * win + sumG hold win age (gs.take k)) ∧ Aside0 (Below w2.heap.size w2 wr)) (fun v7 v27 wr => gs.length - (intOf v27).toNat)
  case atStart => exact ⟨0, Nat.zero_le _, rfl, by simp [sumG], ⟨Below.refl _ _⟩⟩
  case round =>
    obtain ⟨k, hk, rfl, rfl, HBr⟩ := hrel
    have hlen : gs.length ≤ 9223372036854775807 := by omega
    by_cases hlt : k < gs.length
    · have hC1 := Kd.C_below HCG.out (below_step HW.out.1 HBr.out)
      obtain ⟨ad, rfl, hx0, hx1, hx2⟩ := at_T52 hC1 (k : Int) (by omega) (by omega)
      have hu : rd_T52 gs (k : Int) = gs[k] := by
        unfold rd_T52
        rw [Int.toNat_natCast, List.getD_eq_getElem?_getD, List.getElem?_eq_getElem hlt]
        rfl
      rw [hu] at hx0 hx1 hx2
      simp only [Int.toNat_natCast] at hx0 hx1 hx2
      have hok := HGS.out gs[k] (List.getElem_mem hlt)
      have hsn : sumG hold win age (gs.take (k + 1)) = sumG hold win age (gs.take k) + gapC hold win age gs[k] := by rw [take_snoc' gs k hlt, sumG_snoc]
      have hsb := sumG_bd (age := age) h0 h1 w0 w1 a0 (gs.take k) (fun g hg => HGS.out g (List.mem_of_mem_take hg))
      have hgb := gapC_bd (age := age) hok h0 h1 w0 w1 a0
      have hl2 : (gs.take k).length ≤ 200 := by rw [List.length_take]; omega
      generalize gs[k] = g at *
      obtain ⟨g0, g1, g2⟩ := hok
      have hwl : IntKind.i64.wrap (g.f2 - g.f1) = g.f2 - g.f1 := IntWalk.i64_in _ (by omega)
      have HB1 := blk_below HW.out.2.2.2.2.1 HBr.out
      have Hc1 := blk_below HW.out.2.2.2.2.2.1 HBr.out
      have Hr1 := blk_below HW.out.2.2.2.2.2.2 HBr.out
      have hcl1 := fun W (hW : Below wr.heap.size wr W) => agedC_any B age (g.f2 - g.f1) W ((blk_cell (blk_below HB1 hW) 0).trans rfl)
      unfold gapC at hsn hgb
      have hm : 0 ≤ mn age (g.f2 - g.f1) ∧ mn age (g.f2 - g.f1) ≤ 1000000000 := by unfold mn; split <;> omega
      generalize mn age (g.f2 - g.f1) = h at *
      have hq := mul_bd hm.1 hm.2 h0 h1
      have hwq : IntKind.i64.wrap (h * hold) = h * hold := IntWalk.i64_in _ (by omega)
      generalize hS : sumG hold win age (gs.take k) = S at *
      have hmw := HMW.out
      generalize hQ : h * hold = Q at *
      generalize hCW : (cnt : Int) * win = CW at *
      have hws : IntKind.i64.wrap (CW + S + Q) = CW + S + Q := IntWalk.i64_in _ (by omega)
      have x1 : wr.cell? ⟨w.heap.size, 0, none⟩ = some (.int .i64 hold) := (blk_cell Hc1 0).trans rfl
      have x2 : wr.cell? ⟨w.heap.size, 1, none⟩ = some (.int .i64 win) := (blk_cell Hc1 1).trans rfl
      have x3 : wr.cell? ⟨w.heap.size + 1, 0, none⟩ = some (.func (.func 43) #[] #[.pointer (some ⟨B, 0, none⟩)]) := (blk_cell Hr1 0).trans rfl
      have hz1 : w.heap.size < wr.heap.size := blk_lt Hc1
      have hz2 : w.heap.size + 1 < wr.heap.size := blk_lt Hr1
      have HSN := Aside0.mk hsn
      have HHQ := Aside0.mk hQ
      have HHS := Aside0.mk hS
      have HHC := Aside0.mk hCW
      have HBB1 := Aside0.mk HB1
      have HCC1 := Aside0.mk Hc1
      have HRR1 := Aside0.mk Hr1
      have HU := Aside0.mk hu
      clear hsn hQ hS hCW HB1 Hc1 Hr1 hu hC1
      by_cases hwin : h < g.f2 - g.f1
      all_goals
        go_wp2_with fail
        refine (hcl1 _ (by repeat (first | exact Below.refl _ _ | apply below_drew | apply below_alloc))).mono ?_
        rintro e w' ⟨rfl, rfl⟩
        go_wp2_with fail
        go_roundw
        case rel => exact ⟨k + 1, by omega, by go_num, by (rw [HSN.out]; (first | rw [if_pos hwin] | rw [if_neg (by omega)]); rw [HHQ.out]; congr 1; unfold wrap64; omega), ⟨by repeat (first | exact HBr.out | apply below_drew | apply below_alloc)⟩⟩
        case measure => simp [intOf]; omega
    · obtain rfl : k = gs.length := by omega
      rw [List.take_length]
      have hW2 : CostW T M B w.heap.size (w.heap.size + 1) base lv (.slice Ag gs.length cg) gs f cnt e hold win age w wr :=
        ⟨below_step HW.out.1 HBr.out, blk_below HW.out.2.1 HBr.out, pw_own_below HW.out.2.2.1 HBr.out, HW.out.2.2.2.1.block (HBr.out.block M HW.out.2.2.2.1.lt), blk_below HW.out.2.2.2.2.1 HBr.out, blk_below HW.out.2.2.2.2.2.1 HBr.out, blk_below HW.out.2.2.2.2.2.2 HBr.out⟩
      have t2 : wr.cell? ⟨T, 2, none⟩ = some (.map (some M)) := (blk_cell hW2.2.1 2).trans rfl
      obtain ⟨w4, hrun, hir, hgr, hsz4⟩ := hW2.2.2.2.1.range Try.underlying3 Try.underlying69
      have hB4 : Below wr.heap.size wr w4 := (Below.refl wr.heap.size wr).grown hgr (Nat.le_refl _) (fun k hk => by cases hk)
      go_wp2
      have hsg := sumG_bd (age := age) h0 h1 w0 w1 a0 gs HGS.out
      have hMW := HMW.out
      have hTl : T < wr.heap.size := blk_lt hW2.2.1
      have hMl : M < wr.heap.size := hW2.2.2.2.1.lt
      have hBl : B < wr.heap.size := blk_lt hW2.2.2.2.2.1
      have hcl0 : w.heap.size < wr.heap.size := blk_lt hW2.2.2.2.2.2.1
      have hrl : w.heap.size + 1 < wr.heap.size := blk_lt hW2.2.2.2.2.2.2
      have hgvl : ∀ k, Value.ownBlock (.slice Ag gs.length cg) = some k → k < wr.heap.size := own_lt hW2.2.2.1
      have HGV := Aside0.mk (show Value.ownBlock (.slice Ag gs.length cg) = none ∨ Value.ownBlock (.slice Ag gs.length cg) ≠ some wr.heap.size by
        cases hob : Value.ownBlock (.slice Ag gs.length cg) with
        | none => exact .inl rfl
        | some k => exact .inr (fun h => by injection h with h; have := hgvl k hob; omega))
      have hWI : RInv T M B w.heap.size (w.heap.size + 1) base wr.heap.size lv (.slice Ag gs.length cg) gs f cnt e hold win age (cnt * win + sumG hold win age gs) w (.int .i64 (cnt * win + sumG hold win age gs)) w4 := by
        refine ⟨[], _, cnt, List.nodup_nil, by simp, hir, by simp, by simp, by simp [sumT], ?_⟩
        exact ⟨below_step hW2.1 hB4, blk_below hW2.2.1 hB4, pw_own_below hW2.2.2.1 hB4, hW2.2.2.2.1.block (hB4.block M hMl), blk_below hW2.2.2.2.2.1 hB4, blk_below hW2.2.2.2.2.2.1 hB4, blk_below hW2.2.2.2.2.2.2 hB4⟩
      have HWI := Aside0.mk hWI
      generalize hN0 : (cnt : Int) * win + sumG hold win age gs = N0 at *
      have hN1 : 0 ≤ N0 ∧ N0 ≤ 500000000000000 := by omega
      have HN0 := Aside0.mk hN0
      clear hWI hW2 t2 hrun hir hgr hB4 hMW hsg hgvl hN0
      generalize wr.heap.size = r at *
      go_loopw [7] (fun v7 wx => Aside0 (RInv T M B w.heap.size (w.heap.size + 1) base r lv (.slice Ag gs.length cg) gs f cnt e hold win age N0 w v7 wx)) (fun v7 wx => wx.rangeLeft M r)
      case atStart => exact HWI
      case round =>
        obtain ⟨dn, left, cl, hnd, hds, hir, hlf, hle, rfl, hCW⟩ := hrel.out
        have hle0 := hir.left_eq
        have hst := sumT_bd h0 h1 a0 he HF.out dn hds
        have hdl : dn.length ≤ 200 := by omega
        rcases hir.next Try.underlying3 0 with ⟨hc0, hl0, hrun⟩ | ⟨p, y, w5, cl', hlp, hfp, hrun, hir', hlt', hgr', hsz', hen⟩
        · have HX := Aside0.mk (show CostPost hold win age e gs f cnt w (.returned (.int .i64 (N0 + sumT hold age e f dn))) wr from ⟨hCW.1, dn, hnd, fun p => ⟨hds p, fun hp => by
            have h1 := hl0 p
            rw [hlf p, hp] at h1
            simpa using h1⟩, by rw [HN0.out]⟩)
          clear hnd hds hir hlf hCW hst hle0 hl0 hc0
          go_wp2
          go_ret
          exact HX.out
        · have hy := HF.out p y hfp
          replace hrun : (Instr.next (.pointer (some ⟨r, 0, none⟩)) false 0).run Try.prog wr = .ok (.tuple #[.bool true, .int .i64 p, .int .i64 y]) w5 := hrun
          replace hen : (Instr.entry (.pointer (some ⟨r, 0, none⟩))).run Try.prog w5 = .ok (.tuple #[.int .i64 p, .int .i64 y]) w5 := hen
          have hCW' := hCW.keep hgr' (by omega) (by omega) (by omega) (by omega) (by omega) (by omega) HGV.out
          have hnp : p ∉ dn := by
            intro hp
            rw [hlf p] at hlp
            simp [hp] at hlp
          have hsc : sumT hold age e f (p :: dn) = mn age (e - y) * hold + sumT hold age e f dn := by simp [sumT, hfp]
          have hnx : RInv T M B w.heap.size (w.heap.size + 1) base r lv (.slice Ag gs.length cg) gs f cnt e hold win age N0 w (.int .i64 (N0 + (mn age (e - y) * hold + sumT hold age e f dn))) w5 := by
            refine ⟨p :: dn, _, cl', List.nodup_cons.2 ⟨hnp, hnd⟩, ?_, hir', ?_, by simp; omega, by rw [hsc], hCW'⟩
            · intro q hq
              rcases List.mem_cons.1 hq with rfl | hq
              · rw [hfp]; rfl
              · exact hds q hq
            · intro q
              show (left q && !(q == p)) = _
              rw [hlf q, List.contains_cons]
              cases (f q).isSome <;> cases dn.contains q <;> cases (q == p) <;> rfl
          have hwe : IntKind.i64.wrap (e - y) = e - y := IntWalk.i64_in _ (by omega)
          have hm : 0 ≤ mn age (e - y) ∧ mn age (e - y) ≤ 1000000000 := by unfold mn; split <;> omega
          have hcl1 := fun W (hW : W.cell? ⟨B, 0, none⟩ = some (.int .i64 age)) => agedC_any B age (e - y) W hW
          have hq := mul_bd hm.1 hm.2 h0 h1
          have HNX := Aside0.mk hnx
          have t3 : w5.cell? ⟨T, 3, none⟩ = some (.int .i64 e) := (blk_cell hCW'.2.1 3).trans rfl
          have x1 : w5.cell? ⟨w.heap.size, 0, none⟩ = some (.int .i64 hold) := (blk_cell hCW'.2.2.2.2.2.1 0).trans rfl
          have x3 : w5.cell? ⟨w.heap.size + 1, 0, none⟩ = some (.func (.func 43) #[] #[.pointer (some ⟨B, 0, none⟩)]) := (blk_cell hCW'.2.2.2.2.2.2 0).trans rfl
          have x4 : w5.cell? ⟨B, 0, none⟩ = some (.int .i64 age) := (blk_cell hCW'.2.2.2.2.1 0).trans rfl
          have HLL := Aside0.mk (show w5.rangeLeft M r < wr.rangeLeft M r by rw [hir'.left_eq, hle0]; exact hlt')
          clear hnx hnd hds hir hlf hCW hCW' hir' hgr' hlp hfp hsc hnp hle0
          generalize mn age (e - y) = h at *
          have hwq : IntKind.i64.wrap (h * hold) = h * hold := IntWalk.i64_in _ (by omega)
          generalize sumT hold age e f dn = S at *
          go_wp2_with fail
          go_region_held3 (fun w' => w'.cell? ⟨T, 3, none⟩ = some (.int .i64 e) ∧ w'.cell? ⟨w.heap.size, 0, none⟩ = some (.int .i64 hold) ∧ w'.cell? ⟨w.heap.size + 1, 0, none⟩ = some (.func (.func 43) #[] #[.pointer (some ⟨B, 0, none⟩)]) ∧ w'.cell? ⟨B, 0, none⟩ = some (.int .i64 age))
            (first | go_keep | (refine ⟨?_, ?_, ?_, ?_⟩ <;> first | assumption | go_simp))
            ((go_at_call 43; refine (hcl1 _ ?c1).mono ?_; (case c1 => go_simp); rintro e w' ⟨rfl, rfl⟩))
          go_wp2
          go_roundw
          case rel =>
            have e1 : wrap64 (N0 + S + wrap64 (h * hold)) = N0 + (h * hold + S) := by unfold wrap64; omega
            have e2 : wrap64 (N0 + S + h * hold) = N0 + (h * hold + S) := by unfold wrap64; omega
            have e3 : N0 + S + h * hold = N0 + (h * hold + S) := by omega
            have e4 : IntKind.i64.wrap (N0 + S + h * hold) = N0 + (h * hold + S) := by rw [IntWalk.i64_in _ (by omega)]; omega
            first
              | (rw [e4]; exact ⟨HNX.out.drew⟩)
              | (rw [e1]; exact ⟨HNX.out.drew⟩)
              | (rw [e2]; exact ⟨HNX.out.drew⟩)
              | (rw [e3]; exact ⟨HNX.out.drew⟩)
          case measure => exact HLL.out
end Go.Proofs.Ytdkfmbammdmohaa.PPolicyCosts

namespace Go.Proofs.Ytdkfmbammdmohaa.PPolicyCosts
open Go.RowKit Go.Proofs.YtdkfmbammdmohaaW.PrintWords Go.Proofs.YtdkfmbammdmohaaW.PrintLast Go.Proofs.YtdkfmbammdmohaaW.PrintMore
open Go.Proofs.YtdkfmbammdmohaaM Go.Proofs.YtdkfmbammdmohaaS
attribute [local go_sem] max2_int min2_int max_two min_two max_three min_three max_four min_four
set_option linter.unusedVariables false
set_option linter.unusedSimpArgs false

theorem info90 : (Try.prog.info? 90).map (fun i => (i.zero, i.size, i.bytes)) = some (some (.agg #[(.int .i64 0), (.bool false), (.int .i64 0)]), 3, 24) := by kernel_rfl

section
variable {P : Program} {ops : Array Oper} {rest : List Oper} {o : Oper} {a : Act} {Q : Exit → Act → World → Prop}
/-- append(v, x ..) of m elements, the row owned -/
theorem wp_appM {w0 W : World} (base m : Nat) (hgd : o.guard = none) (s x : Operand) (t e : TypeId) (z : Value) (size bytes : Nat)
    (ho : o.op = .call { callee := .builtin .append, args := #[s, x], argTypes := #[t, t] })
    (ht : P.underlying t = some (.slice e)) (hinfo : (P.info? e).map (fun i => (i.zero, i.size, i.bytes)) = some (some z, size, bytes)) (hz : z.cells.size = size) (hs0 : 0 < size) (hb0 : 0 < bytes)
    (v : Value) (n : Nat) (xs ys : List Value) (hs : a.eval s = v) (hx : a.eval x = .slice (some ⟨W.heap.size, 0, none⟩) m m) (hys : ys.length = m * size) (h1 : ∀ u ∈ ys, u.oneCell' = true)
    (HO : W.ownsRow base e size v n xs) (HB : Below base w0 W) (hbase : base ≤ W.heap.size) (hl : (n + m) * bytes ≤ 140737488355328)
    (h : ∀ v1 w1, w1.ownsRow base e size v1 (n + m) (xs ++ ys) → Below base w0 w1 → W.grownBy w1 v.ownBlock → (v1.ownBlock = v.ownBlock ∨ ∃ b, v1.ownBlock = some b ∧ W.heap.size ≤ b) → wpList P ops Q rest (a.put o.dst v1) w1) :
    wpList P ops Q (o :: rest) a (W.alloc (.cells ys.toArray e)) := by
  obtain ⟨i0, hi, hzz⟩ := Option.map_eq_some_iff.1 hinfo
  simp only [Prod.mk.injEq] at hzz
  obtain ⟨hz0, hz1, hz2⟩ := hzz
  have hlen : n + m ≤ 140737488355328 := Nat.le_trans (Nat.le_mul_of_pos_right _ hb0) hl
  refine wpList_append_own_at (W.alloc (.cells ys.toArray e)) hgd s x t ho base e i0 z size bytes ht hi hz0 hz1 hz2 hz hs0 v n xs hs (HO.alloc _) ⟨W.heap.size, 0, none⟩ m m ys hx hys
    (by simpa using World.news_of_block (cs := ys.toArray) (t := e) (fr := (0, 0)) (heap_alloc_new W (.cells ys.toArray e))) h1 (by simp only [maxLen]; omega) hl (by simp; omega) ?_
  intro v1 w1 hown hg _ hat
  refine h v1 w1 hown ((HB.alloc hbase _).grown hg (by simp; omega) (own_base HO)) (World.grownBy.trans (World.grownBy_alloc W _ _) hg) ?_
  rcases hat with hat | hat
  · exact .inl hat
  · exact .inr ⟨_, hat, by simp⟩
/-- append(v, x) to a queue -/
theorem wp_appQ {w0 W : World} (base : Nat) (hgd : o.guard = none) (s x : Operand) (t e : TypeId) (z : Value) (size bytes : Nat)
    (ho : o.op = .call { callee := .builtin .append, args := #[s, x], argTypes := #[t, t] })
    (ht : P.underlying t = some (.slice e)) (hinfo : (P.info? e).map (fun i => (i.zero, i.size, i.bytes)) = some (some z, size, bytes)) (hz : z.cells.size = size) (hs0 : 0 < size) (hb0 : 0 < bytes)
    (v : Value) (n : Nat) (xs ys : List Value) (hs : a.eval s = v) (hx : a.eval x = .slice (some ⟨W.heap.size, 0, none⟩) 1 1) (hys : ys.length = size) (h1 : ∀ u ∈ ys, u.oneCell' = true)
    (HO : QRow W base e size v n xs) (HB : Below base w0 W) (hbase : base ≤ W.heap.size) (hl : (n + 1) * bytes ≤ 140737488355328)
    (h : ∀ v1 w1, QRow w1 base e size v1 (n + 1) (xs ++ ys) → Below base w0 w1 → W.grownBy w1 v.ownBlock → wpList P ops Q rest (a.put o.dst v1) w1) :
    wpList P ops Q (o :: rest) a (W.alloc (.cells ys.toArray e)) := by
  obtain ⟨i0, hi, hzz⟩ := Option.map_eq_some_iff.1 hinfo
  simp only [Prod.mk.injEq] at hzz
  obtain ⟨hz0, hz1, hz2⟩ := hzz
  have hlen : n + 1 ≤ 140737488355328 := Nat.le_trans (Nat.le_mul_of_pos_right _ hb0) hl
  have hq : QRow (W.alloc (.cells ys.toArray e)) base e size v n xs := q_move HO (fun k hk => Below.heap_alloc W _ k (q_lt HO k hk))
  obtain ⟨v1, w1, hr, h2, h3, h4⟩ := q_append (P := P) (W.alloc (.cells ys.toArray e)) base t o.type e i0 z size bytes ht hi hz0 hz1 hz2 hz hs0 v n xs hq ⟨W.heap.size, 0, none⟩ 1 1 ys (by rw [hys, Nat.one_mul])
    (by simpa using World.news_of_block (cs := ys.toArray) (t := e) (fr := (0, 0)) (heap_alloc_new W (.cells ys.toArray e))) h1 (by omega) (by simp only [maxLen]; omega) hl (by simp; omega)
  have hg : W.grownBy w1 v.ownBlock := World.grownBy.trans (World.grownBy_alloc W _ _) h3
  refine wpList_plain hgd fun K hK => ?_
  unfold Oper.wp execOp
  simp only [ho, resolve, invoke, builtin, Sem.run_bind, Sem.run_pure, Result.andThen_ok, List.map_toArray, List.map_cons, List.map_nil, hs, hx, hr]
  exact hK _ _ (h v1 w1 h2 (HB.grown hg hbase (fun k hk => (q_typed HO k hk).1)) hg)
end

theorem evict_stop (hold a limit n : Int) (q : List S98) (h : ¬ limit < (q.length : Int)) : evict hold a limit n q = (n, q) := by
  cases q with
  | nil => rfl
  | cons x q => rw [evict, if_neg h]

def MostPost (hold win limit e : Int) (l : List S73) (w : World) (en : Ending) (w' : World) : Prop :=
  Below w.heap.size w w' ∧ ∃ ss : List S90, ss.Perm (stepsOf l) ∧ ss.Pairwise (fun x y => ltOf cmpStep y x = false) ∧ en = .returned (.int .i64 (mostQ hold win limit e ss))

/-- The steps, as they are laid. -/
def StI (w : World) (hold win : Int) (l : List S73) (k : Nat) (v : Value) (wr : World) : Prop :=
  Below w.heap.size w wr ∧ wr.heap[w.heap.size]? = some (.cells #[.int .i64 hold, .int .i64 win] 24 (0, 0)) ∧ wr.ownsRow w.heap.size 90 3 v (stepsOf (l.take k)).length ((stepsOf (l.take k)).flatMap e90)

theorem q_below {w w1 : World} {base n size : Nat} {e : TypeId} {v : Value} {xs : List Value} (h : QRow w base e size v n xs) (hb : Below w.heap.size w w1) : QRow w1 base e size v n xs := q_move h (fun k hk => hb.block k (q_lt h k hk))

def lenV : Value → Nat
  | .slice _ n _ => n
  | _ => 0

set_option maxRecDepth 100000 in
set_option maxHeartbeats 8000000 in
theorem most_any (T base : Nat) (A : Option Addr) (c : Nat) (l : List S73) (gs : List S52) (f : Int → Option Int) (cnt : Nat) (e hold win limit : Int) (w : World) (hT : TraceAt w base T (.slice A l.length c) gs f cnt e) (hC : Kd.C k73 w A l.length l) (hl : l.length ≤ 200)
    (hL : 0 ≤ limit) :
    Calls Try.prog 25 #[.pointer (some ⟨T, 0, none⟩), .agg #[.int .i64 hold, .int .i64 win], .int .i64 limit] w (MostPost hold win limit e l w) := by
  obtain ⟨gv, M, hb, hT, hG, hMb, hM⟩ := hT
  have t0 : w.cell? ⟨T, 0, none⟩ = some (.slice A l.length c) := (blk_cell hT 0).trans rfl
  have hTlt : T < w.heap.size := blk_lt hT
  have HT := Aside0.mk hT
  have HC := Aside0.mk hC
  clear hT hC hG hM hb hMb
  go_enter Try.func25, Try.ntmps25
  go_wp2
  go_loopw [7, 22] (fun v7 v22 wr => ∃ k : Nat, k ≤ l.length ∧ v22 = .int .i64 k ∧ Aside0 (StI w hold win l k v7 wr)) (fun v7 v22 wr => l.length - (intOf v22).toNat)
  case atStart =>
    refine ⟨0, Nat.zero_le _, rfl, ⟨?_, ?_, ?_⟩⟩
    · repeat (first | exact Below.refl _ _ | apply below_drew | apply below_alloc)
    · with_reducible repeat (first | exact blk_new _ _ | refine blk_alloc ?_ _)
    · exact own_nil _ _ _ _
  case round =>
    obtain ⟨k, hk, rfl, HI⟩ := hrel
    have hlen : l.length ≤ 9223372036854775807 := by omega
    by_cases hlt : k < l.length
    · have hC1 := Kd.C_below HC.out HI.out.1
      obtain ⟨ad, rfl, hx0, hx1, hx2⟩ := at_T73 hC1 (k : Int) (by omega) (by omega)
      have hu : rd_T73 l (k : Int) = l[k] := by
        unfold rd_T73
        rw [Int.toNat_natCast, List.getD_eq_getElem?_getD, List.getElem?_eq_getElem hlt]
        rfl
      rw [hu] at hx0 hx1 hx2
      simp only [Int.toNat_natCast] at hx0 hx1 hx2
      have HTK := Aside0.mk (take_snoc' l k hlt)
      generalize l[k] = u at *
      clear hC1 hu
      have hsz : w.heap.size < wr.heap.size := blk_lt HI.out.2.1
      have hol := stepsOf_len (l.take k)
      rw [List.length_take, Nat.min_eq_left hk] at hol
      go_wp2_with (at_builtin; go_loud (refine wp_appM (w0 := w) (W := wr.alloc (.cells #[.int .i64 u.f0, .int .i64 u.f1, .int .i64 u.f2] 73)) w.heap.size 2 (by rfl) _ _ 88 90 _ 3 24 (by rfl) Try.underlying88 info90 (by rfl) (by omega) (by omega) _ (stepsOf (l.take k)).length ((stepsOf (l.take k)).flatMap e90) [.int .i64 u.f1, .bool true, .int .i64 u.f0, .int .i64 u.f2, .bool false, .int .i64 u.f0] (by rfl) (by rw [World.size_alloc]; rfl) (by rfl) (by intro y hy; simp at hy; rcases hy with rfl | rfl | rfl | rfl | rfl | rfl <;> rfl) (HI.out.2.2.alloc _) (HI.out.1.alloc (by omega) _) (by simp; omega) (by omega) ?_); intro v1 w1 hown hbel hgr hat)
      go_roundw
      case rel =>
        refine ⟨k + 1, by omega, by go_num, ⟨hbel, ?_, ?_⟩⟩
        · exact blk_grown (blk_alloc HI.out.2.1 _) hgr (own_ne HI.out.2.2 HI.out.2.1 (by decide))
        · rw [HTK.out, stepsOf_snoc, List.length_append, List.flatMap_append]
          exact hown
      case measure => simp [intOf]; omega
    · obtain rfl : k = l.length := by omega
      have hsz := stepsOf_len l
      have HI2 := HI.out
      unfold StI at HI2
      rw [List.take_length] at HI2
      obtain ⟨hBr, hcr, hor⟩ := HI2
      have HBr := Aside0.mk hBr
      have HCr := Aside0.mk hcr
      have HOr := Aside0.mk hor
      clear hBr hcr hor HI
      go_wp2_with (go_at_call 44; refine (sortStep_own w.heap.size _ (stepsOf l) wr HOr.out (by omega)).mono ?_; rintro en w2 ⟨rfl, ss, hperm, hsort, hown, hgr⟩)
      have hb2 : Below w.heap.size w w2 := HBr.out.grown hgr HBr.out.size (fun k hk => own_base HOr.out k hk)
      have hc2 := blk_grown HCr.out hgr (own_ne HOr.out HCr.out (by decide))
      obtain ⟨As, cs, rfl, hcs, hCs⟩ := own_C90 hown
      have hsl : ss.length = l.length * 2 := by rw [hperm.length_eq]; exact stepsOf_len l
      have HCS := Aside0.mk hCs
      have HP := Aside0.mk hperm
      have HS := Aside0.mk hsort
      have HB2 := Aside0.mk hb2
      have HC2 := Aside0.mk hc2
      have HT2 := Aside0.mk (blk_below HT.out hb2)
      clear hperm hsort hown hgr HBr HCr HOr hb2 hc2 hCs
      have hslb : ss.length ≤ 9223372036854775807 := by omega
      have HSL := Aside0.mk hsl
      have h400 : ss.length ≤ 400 := by omega
      clear hsl hsz hlt hk
      go_wp2
      go_simp
      go_wp2
      go_loopw [10, 11, 44] (fun v10 v11 v44 wr => ∃ i : Nat, i ≤ ss.length ∧ v44 = .int .i64 i ∧ v10 = .int .i64 (runQ hold win limit ss i).1 ∧ Aside0 (Below w2.heap.size w2 wr ∧ Qu wr w2.heap.size v11 (runQ hold win limit ss i).2 ∧ (runQ hold win limit ss i).2.length ≤ i)) (fun v10 v11 v44 wr => ss.length - (intOf v44).toNat)
      case atStart => exact ⟨0, Nat.zero_le _, rfl, rfl, ⟨Below.refl _ _, q_of_own (own_nil _ _ _ _), Nat.le_refl _⟩⟩
      case round =>
        obtain ⟨i, hi, rfl, rfl, HI⟩ := hrel
        by_cases hlt : i < ss.length
        · have hltz : (i : Int) < (ss.length : Int) := by omega
          obtain ⟨ad, rfl, hs0, hs1, hs2⟩ := at_T90 (Kd.C_below HCS.out (below_step (Below.refl _ _) HI.out.1)) (i : Int) (by omega) hltz
          simp only [Int.toNat_natCast] at hs0 hs1 hs2
          have HQ := Aside0.mk HI.out.2.1
          have hql := HI.out.2.2
          have HBr := Aside0.mk HI.out.1
          have HRQ := Aside0.mk (show runQ hold win limit ss (i + 1) = stepQ hold win limit (lastAt ss i) (rd_T90 ss (i : Int)) (runQ hold win limit ss i) from rfl)
          clear HI
          generalize hs : rd_T90 ss (i : Int) = s at *
          generalize hr : runQ hold win limit ss i = st at *
          obtain ⟨n, q⟩ := st
          obtain ⟨at_, bg, pg⟩ := s
          simp only at hs0 hs1 hs2 hql
          replace HQ := Aside0.mk (show Qu wr w2.heap.size _ q from HQ.out)
          have hBW : ∀ W, Below w2.heap.size w2 W → (W.cell? ⟨w.heap.size, 0, none⟩ = some (.int .i64 hold) ∧ W.cell? ⟨w.heap.size, 1, none⟩ = some (.int .i64 win)) := fun W hW => ⟨(blk_cell (blk_below HC2.out hW) 0).trans rfl, (blk_cell (blk_below HC2.out hW) 1).trans rfl⟩
          have HBW := Aside0.mk hBW
          clear hBW
          have HRR := Aside0.mk hr
          have HSS := Aside0.mk hs
          clear hr hs
          have hm1 : IntKind.i64.wrap ((i : Int) + 1) = (i : Int) + 1 := IntWalk.i64_in _ (by omega)
          cases bg with
          | true =>
            have hix : (idxW q pg = -1) ∨ ∃ k : Nat, idxW q pg = k ∧ k < q.length := by
              unfold idxW
              cases hf : q.findIdx? (fun y => y.f1 == pg) with
              | none => exact .inl rfl
              | some k => exact .inr ⟨k, rfl, (List.findIdx?_eq_some_iff_getElem.1 hf).1⟩
            rcases hix with hix | ⟨k, hix, hkq⟩
            · have HIX := Aside0.mk hix
              have hidx := idx_any w2.heap.size wr.heap.size _ q at_ pg true (wr.alloc (.cells #[.int .i64 at_, .bool true, .int .i64 pg] 90)) (q_below HQ.out (below_alloc (Below.refl _ _) _)) (blk_new _ _)
              rw [hix] at hidx
              clear hix
              go_wp2_with (go_at_call 48; refine hidx.mono ?_; rintro en w3 ⟨rfl, hb3⟩; have hb4 := below_step HBr.out (below_step (below_alloc (Below.refl _ _) _) hb3); have hcw := (HBW.out _ hb4).2)
              go_roundw
              case rel =>
                refine ⟨i + 1, by omega, by go_num, ?_, ⟨hb4, ?_, ?_⟩⟩
                · rw [HRQ.out]; simp [stepQ, HIX.out, wrap64]
                · rw [HRQ.out]; simp [stepQ, HIX.out]; exact q_below HQ.out (below_step (below_alloc (Below.refl _ _) _) hb3)
                · rw [HRQ.out]; simp [stepQ, HIX.out]; omega
              case measure => simp [intOf]; omega
            · obtain ⟨Aq, cq, rfl, hcq⟩ := q_slice HQ.out
              have HIX := Aside0.mk hix
              have hidx := idx_any w2.heap.size wr.heap.size _ q at_ pg true (wr.alloc (.cells #[.int .i64 at_, .bool true, .int .i64 pg] 90)) (q_below HQ.out (below_alloc (Below.refl _ _) _)) (blk_new _ _)
              rw [hix] at hidx
              clear hix
              have hq5 : ∃ adq, Aq = some adq ∧ ∀ W, Below wr.heap.size wr W → W.cell? (adq.add (k * 2)) = some (.int .i64 (rd_T98 q k).f0) := by
                obtain ⟨_, _, hk9⟩ := qu_C98 HQ.out
                obtain ⟨adq, he, h1, _⟩ := at_T98 hk9 (k : Int) (by omega) (by omega)
                refine ⟨adq, he, fun W hW => ?_⟩
                obtain ⟨adq', he', h1', _⟩ := at_T98 (qu_C98 (q_below HQ.out hW)).2.2 (k : Int) (by omega) (by omega)
                rw [he] at he'
                injection he' with he'
                subst he'
                simpa using h1'
              obtain ⟨adq, rfl, hqc⟩ := hq5
              have HQC := Aside0.mk hqc
              clear hqc
              have hk1 : (0 : Int) ≤ (k : Int) := by omega
              have hk2 : (k : Int) < (q.length : Int) := by omega
              have hk3 : ¬ (k : Int) < 0 := by omega
              have hk4 : IntKind.i64.wrap ((k : Int) + 1) = (k : Int) + 1 := IntWalk.i64_in _ (by omega)
              generalize hrd : (rd_T98 q (k : Int)).f0 = since at *
              have HRD := Aside0.mk hrd
              clear hrd
              go_wp2_with (go_at_call 48; refine hidx.mono ?_; rintro en w3 ⟨rfl, hb3⟩)
              have hb5 := below_step (below_alloc (Below.refl wr.heap.size wr) _) hb3
              have hb4 := below_step HBr.out hb5
              have hc0 := (HBW.out _ hb4).1
              have hqc := HQC.out _ hb5
              have hx0 : w3.cell? ⟨wr.heap.size, 0, none⟩ = some (.int .i64 at_) := (blk_cell (blk_below (blk_new _ _) hb3) 0).trans rfl
              have HB4 := Aside0.mk hb4
              have HB5 := Aside0.mk hb5
              clear hb3 hb4 hb5
              go_region_held3 (fun w' => w'.cell? ⟨w.heap.size, 0, none⟩ = some (.int .i64 hold) ∧ w'.cell? (adq.add (k * 2)) = some (.int .i64 since) ∧ w'.cell? ⟨wr.heap.size, 0, none⟩ = some (.int .i64 at_))
                (first | go_keep | (refine ⟨?_, ?_, ?_⟩ <;> first | assumption | go_simp)) (fail)
              go_wp2_with (go_at_call 50; refine (delete_any w2.heap.size k _ q w3.drew (q_below HQ.out (below_drew HB5.out)) hkq).mono ?_; rintro en w4 ⟨v', rfl, hq', hob, hgr⟩)
              go_roundw
              case rel =>
                have hnk : ¬ idxW q pg < 0 := by rw [HIX.out]; omega
                have htn : (idxW q pg).toNat = k := by rw [HIX.out]; omega
                have hst : stepQ hold win limit (lastAt ss i) ⟨at_, true, pg⟩ (n, q) = (wrap64 (n + wrap64 (wrap64 (at_ - since) * hold)), q.eraseIdx k) := by
                  simp only [stepQ, if_true, if_neg hnk, htn]
                  rw [HIX.out, HRD.out]
                rw [hst] at HRQ
                refine ⟨i + 1, by omega, by go_num, ?_, ⟨(below_drew HB4.out).grown hgr (below_drew HB4.out).size (fun j hj => (q_typed HQ.out j hj).1), ?_, ?_⟩⟩
                · rw [HRQ.out]
                  simp only [IntWalk.i64_left]
                · rw [HRQ.out]; exact hq'
                · rw [HRQ.out]; simp only [List.length_eraseIdx]; split <;> omega
              case measure => simp [intOf]; omega
          | false =>
            have hqcl : q.length ≤ 400 := by omega
            have hsz2 : w2.heap.size ≤ wr.heap.size := HBr.out.size
            go_wp2_with (at_builtin; go_loud (refine wp_appQ (w0 := w2) (W := wr.alloc (.cells #[.int .i64 at_, .bool false, .int .i64 pg] 90)) w2.heap.size (by rfl) _ _ 95 98 _ 2 16 (by rfl) Try.underlying95 info98 (by rfl) (by omega) (by omega) _ q.length (q.flatMap e98) [.int .i64 at_, .int .i64 pg] (by rfl) (by rw [World.size_alloc]; rfl) (by rfl) (by intro y hy; simp at hy; rcases hy with rfl | rfl <;> rfl) (q_below HQ.out (below_alloc (Below.refl _ _) _)) (below_step HBr.out (below_alloc (Below.refl _ _) _)) (by simp; omega) (by omega) ?_); intro v1 w1 hq1 hbel hgr)
            refine genW (fun W => Below w2.heap.size w2 W ∧ Qu W w2.heap.size v1 (q ++ [⟨at_, pg⟩]) ∧ W.heap[wr.heap.size]? = some (.cells #[.int .i64 at_, .bool false, .int .i64 pg] 90 (0, 0))) ⟨hbel, ?_, ?_⟩ ?_
            · show QRow _ _ _ _ _ (q ++ [_]).length ((q ++ [_]).flatMap e98)
              rw [List.length_append, List.flatMap_append]
              exact hq1
            · refine blk_grown (blk_new wr _) hgr (fun h => ?_)
              have := q_lt HQ.out wr.heap.size h.symm
              omega
            clear hbel hq1 hgr
            rintro w3 ⟨hb3, hq3, hx3⟩
            generalize wr.heap.size = bx at *
            go_loopw [10, 11] (fun v10 v11 wx => ∃ (n' : Int) (q' : List S98), v10 = .int .i64 n' ∧ Aside0 (Below w2.heap.size w2 wx ∧ Qu wx w2.heap.size v11 q' ∧ wx.heap[bx]? = some (.cells #[.int .i64 at_, .bool false, .int .i64 pg] 90 (0, 0)) ∧ q'.length ≤ i + 1 ∧ (if lastAt ss i = true then evict hold at_ limit n' q' else (n', q')) = runQ hold win limit ss (i + 1))) (fun v10 v11 wx => lenV v11)
            case atStart =>
              refine ⟨n, _, rfl, ⟨hb3, hq3, hx3, by simp; omega, ?_⟩⟩
              rw [HRQ.out]
              simp [stepQ]
            case round =>
              obtain ⟨n', q', rfl, HI⟩ := hrel
              obtain ⟨hb4, hq4, hx4, hl4, hev⟩ := HI.out
              obtain ⟨Aq, cq, rfl, hcq⟩ := q_slice hq4
              have c0 := (HBW.out _ hb4).1
              have x0 : wr.cell? ⟨bx, 0, none⟩ = some (.int .i64 at_) := (blk_cell hx4 0).trans rfl
              have HEV := Aside0.mk hev
              have HB4 := Aside0.mk hb4
              have HQ4 := Aside0.mk hq4
              have HX4 := Aside0.mk hx4
              have hqm := q_max hq4
              clear HI hev hb4 hq4 hx4
              by_cases hlim : limit < (q'.length : Int)
              · have hg1 : decide ((q'.length : Int) > limit) = true := by simpa using hlim
                by_cases hend : i + 1 = ss.length
                · have hg2 : ((i : Int) + 1 == (ss.length : Int)) = true := by simp; omega
                  have hlast : lastAt ss i = true := by simp [lastAt, hend]
                  have HLA := Aside0.mk hlast
                  clear hlast
                  go_wp2
                  go_quiet (fail)
                  go_wp2
                  refine genW (fun W => Below w2.heap.size w2 W ∧ Qu W w2.heap.size (.slice Aq q'.length cq) q' ∧ W.heap[bx]? = some (.cells #[.int .i64 at_, .bool false, .int .i64 pg] 90 (0, 0))) ⟨pw_below_drewN HB4.out _, q_below HQ4.out (pw_below_drewN (Below.refl _ _) _), blk_drewN HX4.out _⟩ ?_
                  clear HB4 HQ4 HX4 c0 x0
                  rintro wq ⟨hbq, hqq, hxq⟩
                  have hev := HEV.out
                  rw [if_pos HLA.out] at hev
                  obtain ⟨x, q2, rfl⟩ : ∃ x q2, q' = x :: q2 := by
                    cases q' with
                    | nil => simp at hlim; omega
                    | cons x q2 => exact ⟨x, q2, rfl⟩
                  rw [evict, if_pos hlim] at hev
                  have HEV := Aside0.mk hev
                  clear hev
                  have c0 := (HBW.out _ hbq).1
                  have x0 : wq.cell? ⟨bx, 0, none⟩ = some (.int .i64 at_) := (blk_cell hxq 0).trans rfl
                  obtain ⟨adq, rfl, hq0, _⟩ := at_T98 (qu_C98 hqq).2.2 (0 : Int) (by omega) (by simp only [List.length_cons]; omega)
                  obtain ⟨g, o, rfl⟩ : ∃ g o, adq = ⟨g, o, none⟩ := by
                    rcases hqq.2 with ⟨h0, _⟩ | ⟨g, off, cap, cur, he, _⟩
                    · simp at h0
                    · injection he with he; injection he with he
                      exact ⟨_, _, he⟩
                  have ea : (⟨g, o, none⟩ : Addr).add 0 = ⟨g, o, none⟩ := rfl
                  have er : rd_T98 (x :: q2) 0 = x := rfl
                  rw [er] at hq0
                  simp only [Int.toNat_zero, Nat.zero_mul, ea] at hq0
                  clear ea er
                  have hqd := q_drop (k := 1) hqq (by simp only [List.length_cons]; omega)
                  have HXQ := Aside0.mk hxq
                  have HBQ := Aside0.mk hbq
                  have HQD := Aside0.mk hqd
                  have hq1 : 1 ≤ (x :: q2).length := by simp only [List.length_cons]; omega
                  have hqz : (0 : Int) < ((x :: q2).length : Int) := by omega
                  have hqz1 : (1 : Int) ≤ ((x :: q2).length : Int) := by omega
                  have hcz : (1 : Int) ≤ (cq : Int) := by omega
                  have hc1 : 1 ≤ cq := by omega
                  have hqp : 0 < (x :: q2).length := hq1
                  clear hxq hbq hqd hqq
                  generalize hqle : (x :: q2).length = ql at *
                  have HLL : Aside0 (ql = q2.length + 1) := ⟨hqle.symm⟩
                  clear hqle
                  go_region_held3 (fun w' => w'.cell? ⟨w.heap.size, 0, none⟩ = some (.int .i64 hold) ∧ w'.cell? ⟨g, o, none⟩ = some (.int .i64 x.f0) ∧ w'.cell? ⟨bx, 0, none⟩ = some (.int .i64 at_))
                    (first | go_keep | (refine ⟨?_, ?_, ?_⟩ <;> first | assumption | go_simp)) (fail)
                  go_wp2
                  go_roundw
                  case rel =>
                    refine ⟨_, q2, by simp only [IntWalk.i64_left]; rfl, ⟨below_drew HBQ.out, ?_, HXQ.out, by have := HLL.out; omega, ?_⟩⟩
                    · have h := q_below HQD.out (below_drew (Below.refl _ _))
                      have hl1 : ql - 1 = q2.length := by have := HLL.out; omega
                      rw [hl1] at h ⊢
                      by_cases hc : cq = 1
                      · simpa [hc, e98] using h
                      · simpa [hc, e98, Addr.add] using h
                    · rw [if_pos HLA.out]
                      exact HEV.out
                  case measure => have := HLL.out; simp [lenV]; omega
                · have hg2 : ((i : Int) + 1 == (ss.length : Int)) = false := by simp; omega
                  have hnl : (i : Int) + 1 < (ss.length : Int) := by omega
                  have hn0 : (0 : Int) ≤ (i : Int) + 1 := by omega
                  have hnt : ((i : Int) + 1).toNat = i + 1 := by omega
                  obtain ⟨ad', e', hy0, _, _⟩ := at_T90 (Kd.C_below HCS.out HB4.out) ((i : Int) + 1) hn0 hnl
                  injection e' with e'
                  subst e'
                  rw [hnt] at hy0
                  by_cases hgt : (rd_T90 ss ((i : Int) + 1)).f0 > at_
                  · have hlast : lastAt ss i = true := by simp [lastAt, HSS.out, hgt]
                    have HLA := Aside0.mk hlast
                    clear hlast
                    generalize rd_T90 ss ((i : Int) + 1) = s2 at *
                    have hg3 : decide (s2.f0 > at_) = true := by simpa using hgt
                    go_wp2
                    go_quiet (fail)
                    go_wp2
                    refine genW (fun W => Below w2.heap.size w2 W ∧ Qu W w2.heap.size (.slice Aq q'.length cq) q' ∧ W.heap[bx]? = some (.cells #[.int .i64 at_, .bool false, .int .i64 pg] 90 (0, 0))) ⟨pw_below_drewN HB4.out _, q_below HQ4.out (pw_below_drewN (Below.refl _ _) _), blk_drewN HX4.out _⟩ ?_
                    clear HB4 HQ4 HX4 c0 x0
                    rintro wq ⟨hbq, hqq, hxq⟩
                    have hev := HEV.out
                    rw [if_pos HLA.out] at hev
                    obtain ⟨x, q2, rfl⟩ : ∃ x q2, q' = x :: q2 := by
                      cases q' with
                      | nil => simp at hlim; omega
                      | cons x q2 => exact ⟨x, q2, rfl⟩
                    rw [evict, if_pos hlim] at hev
                    have HEV := Aside0.mk hev
                    clear hev
                    have c0 := (HBW.out _ hbq).1
                    have x0 : wq.cell? ⟨bx, 0, none⟩ = some (.int .i64 at_) := (blk_cell hxq 0).trans rfl
                    obtain ⟨adq, rfl, hq0, _⟩ := at_T98 (qu_C98 hqq).2.2 (0 : Int) (by omega) (by simp only [List.length_cons]; omega)
                    obtain ⟨g, o, rfl⟩ : ∃ g o, adq = ⟨g, o, none⟩ := by
                      rcases hqq.2 with ⟨h0, _⟩ | ⟨g, off, cap, cur, he, _⟩
                      · simp at h0
                      · injection he with he; injection he with he
                        exact ⟨_, _, he⟩
                    have ea : (⟨g, o, none⟩ : Addr).add 0 = ⟨g, o, none⟩ := rfl
                    have er : rd_T98 (x :: q2) 0 = x := rfl
                    rw [er] at hq0
                    simp only [Int.toNat_zero, Nat.zero_mul, ea] at hq0
                    clear ea er
                    have hqd := q_drop (k := 1) hqq (by simp only [List.length_cons]; omega)
                    have HXQ := Aside0.mk hxq
                    have HBQ := Aside0.mk hbq
                    have HQD := Aside0.mk hqd
                    have hq1 : 1 ≤ (x :: q2).length := by simp only [List.length_cons]; omega
                    have hqz : (0 : Int) < ((x :: q2).length : Int) := by omega
                    have hqz1 : (1 : Int) ≤ ((x :: q2).length : Int) := by omega
                    have hcz : (1 : Int) ≤ (cq : Int) := by omega
                    have hc1 : 1 ≤ cq := by omega
                    have hqp : 0 < (x :: q2).length := hq1
                    clear hxq hbq hqd hqq
                    generalize hqle : (x :: q2).length = ql at *
                    have HLL : Aside0 (ql = q2.length + 1) := ⟨hqle.symm⟩
                    clear hqle
                    go_region_held3 (fun w' => w'.cell? ⟨w.heap.size, 0, none⟩ = some (.int .i64 hold) ∧ w'.cell? ⟨g, o, none⟩ = some (.int .i64 x.f0) ∧ w'.cell? ⟨bx, 0, none⟩ = some (.int .i64 at_))
                      (first | go_keep | (refine ⟨?_, ?_, ?_⟩ <;> first | assumption | go_simp)) (fail)
                    go_wp2
                    go_roundw
                    case rel =>
                      refine ⟨_, q2, by simp only [IntWalk.i64_left]; rfl, ⟨below_drew HBQ.out, ?_, HXQ.out, by have := HLL.out; omega, ?_⟩⟩
                      · have h := q_below HQD.out (below_drew (Below.refl _ _))
                        have hl1 : ql - 1 = q2.length := by have := HLL.out; omega
                        rw [hl1] at h ⊢
                        by_cases hc : cq = 1
                        · simpa [hc, e98] using h
                        · simpa [hc, e98, Addr.add] using h
                      · rw [if_pos HLA.out]
                        exact HEV.out
                    case measure => have := HLL.out; simp [lenV]; omega
                  · have hlast : lastAt ss i = false := by simp [lastAt, HSS.out]; omega
                    have HLA := Aside0.mk hlast
                    clear hlast
                    generalize rd_T90 ss ((i : Int) + 1) = s2 at *
                    have hg3 : decide (s2.f0 > at_) = false := by simpa using hgt
                    go_wp2
                    go_quiet (fail)
                    go_wp2
                    go_roundw
                    case rel =>
                      have he : (n', q') = runQ hold win limit ss (i + 1) := by
                        rw [← HEV.out, HLA.out]
                        rfl
                      refine ⟨i + 1, by omega, by go_num, ?_, ⟨pw_below_drewN HB4.out _, ?_, ?_⟩⟩
                      · rw [← he]
                      · rw [← he]; exact q_below HQ4.out (pw_below_drewN (Below.refl _ _) _)
                      · rw [← he]; exact hl4
                    case measure => simp [intOf]; omega
              · have hg1 : decide ((q'.length : Int) > limit) = false := by simpa using hlim
                go_wp2
                go_quiet (fail)
                go_wp2
                go_roundw
                case rel =>
                  have he : (n', q') = runQ hold win limit ss (i + 1) := by
                    rw [← HEV.out, evict_stop _ _ _ _ _ (by omega), ite_self]
                  refine ⟨i + 1, by omega, by go_num, ?_, ⟨pw_below_drewN HB4.out _, ?_, ?_⟩⟩
                  · rw [← he]
                  · rw [← he]; exact q_below HQ4.out (pw_below_drewN (Below.refl _ _) _)
                  · rw [← he]; exact hl4
                case measure => simp [intOf]; omega
        · obtain rfl : i = ss.length := by omega
          obtain ⟨hBr, hQ, hql⟩ := HI.out
          have HMQ := Aside0.mk (show mostQ hold win limit e ss = tailQ hold e (runQ hold win limit ss ss.length).1 (runQ hold win limit ss ss.length).2 from rfl)
          clear HI
          generalize runQ hold win limit ss ss.length = st at *
          obtain ⟨n, q⟩ := st
          simp only at hql hQ
          replace HMQ : Aside0 (mostQ hold win limit e ss = tailQ hold e n q) := ⟨HMQ.out⟩
          replace hQ : Qu wr w2.heap.size _ q := hQ
          obtain ⟨Aq, cq, rfl, hcq⟩ := q_slice hQ
          have hqm := q_max hQ
          have HBr := Aside0.mk hBr
          have HQ := Aside0.mk hQ
          have HCW := Aside0.mk (show ∀ W, Below w2.heap.size w2 W → W.cell? ⟨w.heap.size, 0, none⟩ = some (.int .i64 hold) from fun W hW => (blk_cell (blk_below HC2.out hW) 0).trans rfl)
          have HTW := Aside0.mk (show ∀ W, Below w2.heap.size w2 W → W.cell? ⟨T, 3, none⟩ = some (.int .i64 e) from fun W hW => (blk_cell (blk_below HT2.out hW) 3).trans rfl)
          clear hBr hQ hlt
          go_wp2
          go_loopw [10, 125] (fun v10 v125 wx => ∃ j : Nat, j ≤ q.length ∧ v125 = .int .i64 j ∧ v10 = .int .i64 (tailQ hold e n (q.take j)) ∧ Aside0 (Below wr.heap.size wr wx)) (fun v10 v125 wx => q.length - (intOf v125).toNat)
          case atStart => exact ⟨0, Nat.zero_le _, rfl, rfl, ⟨Below.refl _ _⟩⟩
          case round =>
            obtain ⟨j, hj, rfl, rfl, HBx⟩ := hrel
            by_cases hlt : j < q.length
            · have hjz : (j : Int) < (q.length : Int) := by omega
              have hj0 : (0 : Int) ≤ (j : Int) := by omega
              obtain ⟨adq, rfl, hq0, hq1⟩ := at_T98 (qu_C98 (q_below HQ.out HBx.out)).2.2 (j : Int) (by omega) hjz
              simp only [Int.toNat_natCast] at hq0 hq1
              have hu : rd_T98 q (j : Int) = q[j] := by
                unfold rd_T98
                rw [Int.toNat_natCast, List.getD_eq_getElem?_getD, List.getElem?_eq_getElem hlt]
                rfl
              rw [hu] at hq0 hq1
              have HTK := Aside0.mk (show tailQ hold e n (q.take (j + 1)) = wrap64 (tailQ hold e n (q.take j) + wrap64 (wrap64 (e - q[j].f0) * hold)) by rw [take_snoc' q j hlt]; exact tailQ_snoc hold e n (q.take j) q[j])
              clear hu
              generalize q[j] = x at *
              generalize tailQ hold e n (q.take j) = N at *
              have hb9 := below_step HBr.out HBx.out
              have c0 := HCW.out _ hb9
              have t3 := HTW.out _ hb9
              have hTl : T < w2.heap.size := blk_lt HT2.out
              clear hb9
              go_wp2
              go_region_held3 (fun w' => w'.cell? ⟨w.heap.size, 0, none⟩ = some (.int .i64 hold) ∧ w'.cell? ⟨T, 3, none⟩ = some (.int .i64 e) ∧ w'.cell? ⟨wr.heap.size, 0, none⟩ = some (.int .i64 x.f0))
                (first | go_keep | (refine ⟨?_, ?_, ?_⟩ <;> first | assumption | go_simp)) (fail)
              go_wp2
              go_roundw
              case rel => exact ⟨j + 1, by omega, by go_num, by rw [HTK.out]; simp only [IntWalk.i64_left], ⟨by repeat (first | exact HBx.out | apply below_drew | apply below_alloc)⟩⟩
              case measure => simp [intOf]; omega
            · obtain rfl : j = q.length := by omega
              rw [List.take_length]
              go_wp2
              go_ret
              exact ⟨below_step HB2.out (below_step HBr.out HBx.out), ss, HP.out, HS.out, by rw [HMQ.out]; rfl⟩
end Go.Proofs.Ytdkfmbammdmohaa.PPolicyCosts

/- policy.aged and the cost of a rule that holds for an age. -/
import Derived.Test.YtdkfmbammdmohaaB1
import Derived.Laws.EntriesVeiled
import Derived.IntWalk
import Derived.Laws.ResultCell
import Derived.Deep.DeepMust
namespace Go.Proofs.Ytdkfmbammdmohaa.PPolicyCosts
open Go.RowKit Go.Proofs.YtdkfmbammdmohaaW.PrintWords Go.Proofs.YtdkfmbammdmohaaW.PrintLast Go.Proofs.YtdkfmbammdmohaaW.PrintMore
open Go.Proofs.YtdkfmbammdmohaaM Go.Proofs.YtdkfmbammdmohaaS
attribute [local go_sem] max2_int min2_int max_two min_two max_three min_three max_four min_four
set_option linter.unusedVariables false
set_option linter.unusedSimpArgs false

/-- What aged comes to: a closure over a box that holds the age. -/
def AgedPost (age : Int) (w : World) (e : Ending) (w' : World) : Prop :=
  ∃ B, e = .returned (.agg #[.func (.func 43) #[] #[.pointer (some ⟨B, 0, none⟩)]]) ∧ w.heap.size ≤ B ∧ w'.heap[B]? = some (.cells #[.int .i64 age] 2 (0, 0)) ∧ Below w.heap.size w w'

theorem aged_any (age : Int) (w : World) : Calls Try.prog 23 #[.int .i64 age] w (AgedPost age w) := by
  go_enter Try.func23, Try.ntmps23
  go_wp2
  refine bodyPost_ret (v := .agg #[.func (.func 43) #[] #[.pointer (some ⟨w.heap.size, 0, none⟩)]]) (by simp [results, Try.results23, go_sem]) rfl ⟨w.heap.size, rfl, Nat.le_refl _, ?_, ?_⟩
  · with_reducible repeat (first | exact blk_new _ _ | refine blk_alloc ?_ _)
  · repeat (first | exact Below.refl _ _ | apply below_drew | apply below_alloc)

/-- what a gap costs, held for an age -/
def gapC (hold win age : Int) (g : S52) : Int := mn age (g.f2 - g.f1) * hold + (if mn age (g.f2 - g.f1) < g.f2 - g.f1 then win else 0)
def sumG (hold win age : Int) (gs : List S52) : Int := (gs.map (gapC hold win age)).sum
theorem sumG_snoc (hold win age : Int) (gs : List S52) (g : S52) : sumG hold win age (gs ++ [g]) = sumG hold win age gs + gapC hold win age g := by
  simp [sumG]
/-- a gap of a proper trace -/
def okG (g : S52) : Prop := 0 ≤ g.f1 ∧ g.f1 < g.f2 ∧ g.f2 ≤ 1000000000
theorem mul_bd {a b A B : Int} (h0 : 0 ≤ a) (h1 : a ≤ A) (h2 : 0 ≤ b) (h3 : b ≤ B) : 0 ≤ a * b ∧ a * b ≤ A * B :=
  ⟨Int.mul_nonneg h0 h2, Int.le_trans (Int.mul_le_mul_of_nonneg_right h1 h2) (Int.mul_le_mul_of_nonneg_left h3 (by omega))⟩
theorem gapC_bd {hold win age : Int} {g : S52} (hg : okG g) (h0 : 0 ≤ hold) (h1 : hold ≤ 1000) (w0 : 0 ≤ win) (w1 : win ≤ 1000000000) (a0 : 0 ≤ age) : 0 ≤ gapC hold win age g ∧ gapC hold win age g ≤ 1001000000000 := by
  obtain ⟨g0, g1, g2⟩ := hg
  have hm : 0 ≤ mn age (g.f2 - g.f1) ∧ mn age (g.f2 - g.f1) ≤ 1000000000 := by unfold mn; split <;> omega
  have := mul_bd hm.1 hm.2 h0 h1
  unfold gapC
  split <;> omega
theorem sumG_bd {hold win age : Int} (h0 : 0 ≤ hold) (h1 : hold ≤ 1000) (w0 : 0 ≤ win) (w1 : win ≤ 1000000000) (a0 : 0 ≤ age) : ∀ (gs : List S52), (∀ g ∈ gs, okG g) → 0 ≤ sumG hold win age gs ∧ sumG hold win age gs ≤ 1001000000000 * gs.length
  | [], _ => by simp [sumG]
  | g :: gs, h => by
    have ih := sumG_bd h0 h1 w0 w1 a0 gs (fun x hx => h x (List.mem_cons_of_mem _ hx))
    have hb := gapC_bd (h g (List.mem_cons_self ..)) h0 h1 w0 w1 a0
    simp only [sumG, List.map_cons, List.sum_cons, List.length_cons] at ih ⊢
    omega
/-- what the tails of some pages cost -/
def sumT (hold age e : Int) (f : Int → Option Int) (ks : List Int) : Int := (ks.map fun p => mn age (e - (f p).getD 0) * hold).sum
theorem sumT_bd {hold age e : Int} {f : Int → Option Int} (h0 : 0 ≤ hold) (h1 : hold ≤ 1000) (a0 : 0 ≤ age) (he : e ≤ 1000000000) (hf : ∀ p y, f p = some y → 0 ≤ y ∧ y ≤ e) : ∀ (ks : List Int), (∀ p ∈ ks, (f p).isSome = true) → 0 ≤ sumT hold age e f ks ∧ sumT hold age e f ks ≤ 1000000000000 * ks.length
  | [], _ => by simp [sumT]
  | p :: ks, h => by
    have ih := sumT_bd h0 h1 a0 he hf ks (fun x hx => h x (List.mem_cons_of_mem _ hx))
    have hp := h p (List.mem_cons_self ..)
    cases hfp : f p with
    | none => rw [hfp] at hp; cases hp
    | some y =>
      have hy := hf p y hfp
      have hm : 0 ≤ mn age (e - y) ∧ mn age (e - y) ≤ 1000000000 := by unfold mn; split <;> omega
      have := mul_bd hm.1 hm.2 h0 h1
      simp only [sumT, List.map_cons, List.sum_cons, List.length_cons, hfp, Option.getD_some] at ih ⊢
      omega

/-- What cost comes to. -/
def CostPost (hold win age e : Int) (gs : List S52) (f : Int → Option Int) (cnt : Nat) (w : World) (en : Ending) (w' : World) : Prop :=
  Below w.heap.size w w' ∧ ∃ ks : List Int, ks.Nodup ∧ (∀ p, p ∈ ks ↔ (f p).isSome = true) ∧ en = .returned (.int .i64 (cnt * win + sumG hold win age gs + sumT hold age e f ks))

def CostW (T M B cb rb base : Nat) (lv gv : Value) (gs : List S52) (f : Int → Option Int) (cnt : Nat) (e hold win age : Int) (w wq : World) : Prop :=
  Below w.heap.size w wq ∧ wq.heap[T]? = some (.cells #[lv, gv, .map (some M), .int .i64 e] 71 (0, 0)) ∧ wq.ownsRow base 52 3 gv gs.length (gs.flatMap e52) ∧ IM Try.prog 3 elInt wq M f cnt 1000 ∧
    wq.heap[B]? = some (.cells #[.int .i64 age] 2 (0, 0)) ∧ wq.heap[cb]? = some (.cells #[.int .i64 hold, .int .i64 win] 24 (0, 0)) ∧ wq.heap[rb]? = some (.cells #[.func (.func 43) #[] #[.pointer (some ⟨B, 0, none⟩)]] 60 (0, 0))

theorem reps_flat {α : Type} {R : α → List Value → Prop} {k : Nat} (enc : α → List Value) (hR : ∀ x, R x (enc x)) (hk : ∀ x, (enc x).length = k) : ∀ (l pre : List α), Reps R k pre (pre.flatMap enc) → Reps R k (pre ++ l) ((pre ++ l).flatMap enc)
  | [], pre, h => by simpa using h
  | x :: l, pre, h => by
    have h2 := Reps.snoc h (hR x) (hk x)
    have h3 := reps_flat enc hR hk l (pre ++ [x]) (by simpa using h2)
    simpa using h3
theorem own_C52 {w : World} {base : Nat} {gv : Value} {gs : List S52} (h : w.ownsRow base 52 3 gv gs.length (gs.flatMap e52)) : ∃ A c, gv = .slice A gs.length c ∧ gs.length ≤ c ∧ Kd.C k52 w A gs.length gs := by
  have hr : Reps (k52.K w) 3 gs (gs.flatMap e52) := by
    have := reps_flat (R := k52.K w) (k := 3) e52 (fun x => k52_mk w x) (fun _ => rfl) gs [] (Reps.none _ _)
    simpa using this
  obtain ⟨A, c, rfl, hrow⟩ := own_reads_row h hr rfl
  exact ⟨A, c, rfl, own_le h, hrow⟩
/-- The tails' loop at a round's head. -/
def RInv (T M B cb rb base r : Nat) (lv gv : Value) (gs : List S52) (f : Int → Option Int) (cnt : Nat) (e hold win age N0 : Int) (w : World) (v7 : Value) (wx : World) : Prop :=
  ∃ (dn : List Int) (left : Int → Bool) (cl : Nat), dn.Nodup ∧ (∀ p ∈ dn, (f p).isSome = true) ∧ IR Try.prog 3 elInt wx M r f left cl ∧ (∀ p, left p = ((f p).isSome && !dn.contains p)) ∧ dn.length + cl ≤ cnt ∧ v7 = .int .i64 (N0 + sumT hold age e f dn) ∧ CostW T M B cb rb base lv gv gs f cnt e hold win age w wx

theorem CostW.keep {T M B cb rb base r : Nat} {lv gv : Value} {gs : List S52} {f : Int → Option Int} {cnt : Nat} {e hold win age : Int} {w wx wy : World} (h : CostW T M B cb rb base lv gv gs f cnt e hold win age w wx) (hg : wx.grownBy wy (some r))
    (hT : T ≠ r) (hM : M ≠ r) (hB : B ≠ r) (hc : cb ≠ r) (hr : rb ≠ r) (hw : w.heap.size ≤ r) (hgv : gv.ownBlock = none ∨ gv.ownBlock ≠ some r) : CostW T M B cb rb base lv gv gs f cnt e hold win age w wy := by
  obtain ⟨h1, h2, h3, h4, h5, h6, h7⟩ := h
  have ne : ∀ {k : Nat}, k ≠ r → some k ≠ some r := fun hk e => hk (by injection e)
  exact ⟨h1.grown hg h1.size (fun k hk => by injection hk with hk; omega), blk_grown h2 hg (ne hT), own_other h3 hg hgv, h4.kept hg (ne hM), blk_grown h5 hg (ne hB), blk_grown h6 hg (ne hc), blk_grown h7 hg (ne hr)⟩

theorem RInv.drew {T M B cb rb base r : Nat} {lv gv : Value} {gs : List S52} {f : Int → Option Int} {cnt : Nat} {e hold win age N0 : Int} {w : World} {v7 : Value} {wx : World} (h : RInv T M B cb rb base r lv gv gs f cnt e hold win age N0 w v7 wx) : RInv T M B cb rb base r lv gv gs f cnt e hold win age N0 w v7 wx.drew := by
  obtain ⟨dn, left, cl, h1, h2, h3, h4, h5, h6, h7, h8, h9, h10, h11⟩ := h
  exact ⟨dn, left, cl, h1, h2, h3, h4, h5, h6, below_drew h7, h8, h9, h10.block rfl, h11⟩

theorem genW {G : World → Prop} {W : World} (F : World → Prop) (hF : F W) (h : ∀ wq, F wq → G wq) : G W := h W hF

set_option maxRecDepth 100000 in
set_option maxHeartbeats 4000000 in
theorem cost_any (T B base : Nat) (lv : Value) (gs : List S52) (f : Int → Option Int) (cnt : Nat) (e hold win age : Int) (w : World) (hT : TraceAt w base T lv gs f cnt e) (hB : w.heap[B]? = some (.cells #[.int .i64 age] 2 (0, 0)))
    (h0 : 0 ≤ hold) (h1 : hold ≤ 1000) (w0 : 0 ≤ win) (w1 : win ≤ 1000000000) (a0 : 0 ≤ age) (hgs : ∀ g ∈ gs, okG g) (hgl : gs.length ≤ 200) (hcl : cnt ≤ 200) (he : e ≤ 1000000000) (hf : ∀ p y, f p = some y → 0 ≤ y ∧ y ≤ e) :
    Calls Try.prog 22 #[.pointer (some ⟨T, 0, none⟩), .agg #[.int .i64 hold, .int .i64 win], .agg #[.func (.func 43) #[] #[.pointer (some ⟨B, 0, none⟩)]]] w (CostPost hold win age e gs f cnt w) := by
  obtain ⟨gv, M, hb, hT, hG, hMb, hM⟩ := hT
  obtain ⟨Ag, cg, rfl, hcg, hCg⟩ := own_C52 hG
  have HCG := Aside0.mk hCg
  clear hCg
  have HF := Aside0.mk hf
  have HGS := Aside0.mk hgs
  have HT := Aside0.mk hT
  have HG := Aside0.mk hG
  have HM := Aside0.mk hM
  have HB := Aside0.mk hB
  clear hf hgs hT hG hM hB
  go_enter Try.func22, Try.ntmps22
  go_wp2
  refine genW (CostW T M B w.heap.size (w.heap.size + 1) base lv (.slice Ag gs.length cg) gs f cnt e hold win age w) ?_ ?_
  · have hW : Below w.heap.size w ((w.alloc (.cells #[.int .i64 hold, .int .i64 win] 24)).alloc (.cells #[.func (.func 43) #[] #[.pointer (some ⟨B, 0, none⟩)]] 60)) := by repeat (first | exact Below.refl _ _ | apply below_drew | apply below_alloc)
    refine ⟨hW, blk_below HT.out hW, pw_own_below HG.out hW, HM.out.block (hW.block M HM.out.lt), blk_below HB.out hW, ?_, ?_⟩
    · with_reducible repeat (first | exact blk_new _ _ | refine blk_alloc ?_ _)
    · have := blk_new (w.alloc (.cells #[.int .i64 hold, .int .i64 win] 24)) (.cells #[.func (.func 43) #[] #[.pointer (some ⟨B, 0, none⟩)]] 60)
      simpa using this
  rintro wq ⟨hBq, hTq, hGq, hMq, hBB, hcq, hrq⟩
  have hmw := mul_bd (a := (cnt : Int)) (b := win) (A := 200) (B := 1000000000) (by omega) (by omega) w0 w1
  have hwm : IntKind.i64.wrap ((cnt : Int) * win) = (cnt : Int) * win := IntWalk.i64_in _ (by omega)
  have hln : (Builtin.len_ #[69] 3 #[.map (some M)]).run Try.prog wq.drew = .ok (.int .i64 cnt) wq.drew := (hMq.block (w' := wq.drew) rfl).len Try.underlying69 3
  have t1 : wq.cell? ⟨T, 1, none⟩ = some (.slice Ag gs.length cg) := (blk_cell hTq 1).trans rfl
  have t2 : wq.cell? ⟨T, 2, none⟩ = some (.map (some M)) := (blk_cell hTq 2).trans rfl
  have c0 : wq.cell? ⟨w.heap.size, 0, none⟩ = some (.int .i64 hold) := (blk_cell hcq 0).trans rfl
  have c1 : wq.cell? ⟨w.heap.size, 1, none⟩ = some (.int .i64 win) := (blk_cell hcq 1).trans rfl
  have HTq := Aside0.mk hTq
  have HGq := Aside0.mk hGq
  have HMq := Aside0.mk hMq
  have HBB := Aside0.mk hBB
  have Hcq := Aside0.mk hcq
  have Hrq := Aside0.mk hrq
  have HBq := Aside0.mk hBq
  clear hTq hGq hMq hBB hcq hrq hBq
  go_region_held3 (fun w' => w'.cell? ⟨T, 2, none⟩ = some (.map (some M)) ∧ w'.cell? ⟨w.heap.size, 1, none⟩ = some (.int .i64 win) ∧ (Builtin.len_ #[69] 3 #[.map (some M)]).run Try.prog w' = .ok (.int .i64 cnt) w')
    (first | go_keep | (refine ⟨?_, ?_, ?_⟩ <;> first | assumption | go_simp)) (fail)
  go_wp2
  refine genW (CostW T M B w.heap.size (w.heap.size + 1) base lv (.slice Ag gs.length cg) gs f cnt e hold win age w) ⟨below_drew HBq.out, HTq.out, HGq.out, HMq.out.block rfl, HBB.out, Hcq.out, Hrq.out⟩ ?_
  clear hln t1 t2 c0 c1 HTq HGq HMq HBB Hcq Hrq HBq
  rintro w2 HW
  have HW := Aside0.mk HW
  have HMW := Aside0.mk hmw
  clear hmw
  go_loopw [7, 27] (fun v7 v27 wr => ∃ k : Nat, k ≤ gs.length ∧ v27 = .int .i64 k ∧ v7 = .int .i64 (cnt * win + sumG hold win age (gs.take k)) ∧ Aside0 (Below w2.heap.size w2 wr)) (fun v7 v27 wr => gs.length - (intOf v27).toNat)
  case atStart => exact ⟨0, Nat.zero_le _, rfl, by simp [sumG], ⟨Below.refl _ _⟩⟩
  case round =>
    obtain ⟨k, hk, rfl, rfl, HBr⟩ := hrel
    have hlen : gs.length ≤ 9223372036854775807 := by omega
    by_cases hlt : k < gs.length
    · have hC1 := Kd.C_below HCG.out (below_step HW.out.1 HBr.out)
      obtain ⟨ad, rfl, hx0, hx1, hx2⟩ := at_T52 hC1 (k : Int) (by omega) (by omega)
      have hu : rd_T52 gs (k : Int) = gs[k] := by
        unfold rd_T52
        rw [Int.toNat_natCast, List.getD_eq_getElem?_getD, List.getElem?_eq_getElem hlt]
        rfl
      rw [hu] at hx0 hx1 hx2
      simp only [Int.toNat_natCast] at hx0 hx1 hx2
      have hok := HGS.out gs[k] (List.getElem_mem hlt)
      have hsn : sumG hold win age (gs.take (k + 1)) = sumG hold win age (gs.take k) + gapC hold win age gs[k] := by rw [take_snoc' gs k hlt, sumG_snoc]
      have hsb := sumG_bd (age := age) h0 h1 w0 w1 a0 (gs.take k) (fun g hg => HGS.out g (List.mem_of_mem_take hg))
      have hgb := gapC_bd (age := age) hok h0 h1 w0 w1 a0
      have hl2 : (gs.take k).length ≤ 200 := by rw [List.length_take]; omega
      generalize gs[k] = g at *
      obtain ⟨g0, g1, g2⟩ := hok
      have hwl : IntKind.i64.wrap (g.f2 - g.f1) = g.f2 - g.f1 := IntWalk.i64_in _ (by omega)
      have HB1 := blk_below HW.out.2.2.2.2.1 HBr.out
      have Hc1 := blk_below HW.out.2.2.2.2.2.1 HBr.out
      have Hr1 := blk_below HW.out.2.2.2.2.2.2 HBr.out
      have hcl1 := fun W (hW : Below wr.heap.size wr W) => agedC_any B age (g.f2 - g.f1) W ((blk_cell (blk_below HB1 hW) 0).trans rfl)
      unfold gapC at hsn hgb
      have hm : 0 ≤ mn age (g.f2 - g.f1) ∧ mn age (g.f2 - g.f1) ≤ 1000000000 := by unfold mn; split <;> omega
      generalize mn age (g.f2 - g.f1) = h at *
      have hq := mul_bd hm.1 hm.2 h0 h1
      have hwq : IntKind.i64.wrap (h * hold) = h * hold := IntWalk.i64_in _ (by omega)
      generalize hS : sumG hold win age (gs.take k) = S at *
      have hmw := HMW.out
      generalize hQ : h * hold = Q at *
      generalize hCW : (cnt : Int) * win = CW at *
      have hws : IntKind.i64.wrap (CW + S + Q) = CW + S + Q := IntWalk.i64_in _ (by omega)
      have x1 : wr.cell? ⟨w.heap.size, 0, none⟩ = some (.int .i64 hold) := (blk_cell Hc1 0).trans rfl
      have x2 : wr.cell? ⟨w.heap.size, 1, none⟩ = some (.int .i64 win) := (blk_cell Hc1 1).trans rfl
      have x3 : wr.cell? ⟨w.heap.size + 1, 0, none⟩ = some (.func (.func 43) #[] #[.pointer (some ⟨B, 0, none⟩)]) := (blk_cell Hr1 0).trans rfl
      have hz1 : w.heap.size < wr.heap.size := blk_lt Hc1
      have hz2 : w.heap.size + 1 < wr.heap.size := blk_lt Hr1
      have HSN := Aside0.mk hsn
      have HHQ := Aside0.mk hQ
      have HHS := Aside0.mk hS
      have HHC := Aside0.mk hCW
      have HBB1 := Aside0.mk HB1
      have HCC1 := Aside0.mk Hc1
      have HRR1 := Aside0.mk Hr1
      have HU := Aside0.mk hu
      clear hsn hQ hS hCW HB1 Hc1 Hr1 hu hC1
      by_cases hwin : h < g.f2 - g.f1
      all_goals
        go_wp2_with fail
        refine (hcl1 _ (by repeat (first | exact Below.refl _ _ | apply below_drew | apply below_alloc))).mono ?_
        rintro e w' ⟨rfl, rfl⟩
        go_wp2_with fail
        go_roundw
        case rel => exact ⟨k + 1, by omega, by go_num, by (rw [HSN.out]; (first | rw [if_pos hwin] | rw [if_neg (by omega)]); rw [HHQ.out]; congr 1; unfold wrap64; omega), ⟨by repeat (first | exact HBr.out | apply below_drew | apply below_alloc)⟩⟩
        case measure => simp [intOf]; omega
    · obtain rfl : k = gs.length := by omega
      rw [List.take_length]
      have hW2 : CostW T M B w.heap.size (w.heap.size + 1) base lv (.slice Ag gs.length cg) gs f cnt e hold win age w wr :=
        ⟨below_step HW.out.1 HBr.out, blk_below HW.out.2.1 HBr.out, pw_own_below HW.out.2.2.1 HBr.out, HW.out.2.2.2.1.block (HBr.out.block M HW.out.2.2.2.1.lt), blk_below HW.out.2.2.2.2.1 HBr.out, blk_below HW.out.2.2.2.2.2.1 HBr.out, blk_below HW.out.2.2.2.2.2.2 HBr.out⟩
      have t2 : wr.cell? ⟨T, 2, none⟩ = some (.map (some M)) := (blk_cell hW2.2.1 2).trans rfl
      obtain ⟨w4, hrun, hir, hgr, hsz4⟩ := hW2.2.2.2.1.range Try.underlying3 Try.underlying69
      have hB4 : Below wr.heap.size wr w4 := (Below.refl wr.heap.size wr).grown hgr (Nat.le_refl _) (fun k hk => by cases hk)
      go_wp2
      have hsg := sumG_bd (age := age) h0 h1 w0 w1 a0 gs HGS.out
      have hMW := HMW.out
      have hTl : T < wr.heap.size := blk_lt hW2.2.1
      have hMl : M < wr.heap.size := hW2.2.2.2.1.lt
      have hBl : B < wr.heap.size := blk_lt hW2.2.2.2.2.1
      have hcl0 : w.heap.size < wr.heap.size := blk_lt hW2.2.2.2.2.2.1
      have hrl : w.heap.size + 1 < wr.heap.size := blk_lt hW2.2.2.2.2.2.2
      have hgvl : ∀ k, Value.ownBlock (.slice Ag gs.length cg) = some k → k < wr.heap.size := own_lt hW2.2.2.1
      have HGV := Aside0.mk (show Value.ownBlock (.slice Ag gs.length cg) = none ∨ Value.ownBlock (.slice Ag gs.length cg) ≠ some wr.heap.size by
        cases hob : Value.ownBlock (.slice Ag gs.length cg) with
        | none => exact .inl rfl
        | some k => exact .inr (fun h => by injection h with h; have := hgvl k hob; omega))
      have hWI : RInv T M B w.heap.size (w.heap.size + 1) base wr.heap.size lv (.slice Ag gs.length cg) gs f cnt e hold win age (cnt * win + sumG hold win age gs) w (.int .i64 (cnt * win + sumG hold win age gs)) w4 := by
        refine ⟨[], _, cnt, List.nodup_nil, by simp, hir, by simp, by simp, by simp [sumT], ?_⟩
        exact ⟨below_step hW2.1 hB4, blk_below hW2.2.1 hB4, pw_own_below hW2.2.2.1 hB4, hW2.2.2.2.1.block (hB4.block M hMl), blk_below hW2.2.2.2.2.1 hB4, blk_below hW2.2.2.2.2.2.1 hB4, blk_below hW2.2.2.2.2.2.2 hB4⟩
      have HWI := Aside0.mk hWI
      generalize hN0 : (cnt : Int) * win + sumG hold win age gs = N0 at *
      have hN1 : 0 ≤ N0 ∧ N0 ≤ 500000000000000 := by omega
      have HN0 := Aside0.mk hN0
      clear hWI hW2 t2 hrun hir hgr hB4 hMW hsg hgvl hN0
      generalize wr.heap.size = r at *
      go_loopw [7] (fun v7 wx => Aside0 (RInv T M B w.heap.size (w.heap.size + 1) base r lv (.slice Ag gs.length cg) gs f cnt e hold win age N0 w v7 wx)) (fun v7 wx => wx.rangeLeft M r)
      case atStart => exact HWI
      case round =>
        obtain ⟨dn, left, cl, hnd, hds, hir, hlf, hle, rfl, hCW⟩ := hrel.out
        have hle0 := hir.left_eq
        have hst := sumT_bd h0 h1 a0 he HF.out dn hds
        have hdl : dn.length ≤ 200 := by omega
        rcases hir.next Try.underlying3 0 with ⟨hc0, hl0, hrun⟩ | ⟨p, y, w5, cl', hlp, hfp, hrun, hir', hlt', hgr', hsz', hen⟩
        · have HX := Aside0.mk (show CostPost hold win age e gs f cnt w (.returned (.int .i64 (N0 + sumT hold age e f dn))) wr from ⟨hCW.1, dn, hnd, fun p => ⟨hds p, fun hp => by
            have h1 := hl0 p
            rw [hlf p, hp] at h1
            simpa using h1⟩, by rw [HN0.out]⟩)
          clear hnd hds hir hlf hCW hst hle0 hl0 hc0
          go_wp2
          go_ret
          exact HX.out
        · have hy := HF.out p y hfp
          replace hrun : (Instr.next (.pointer (some ⟨r, 0, none⟩)) false 0).run Try.prog wr = .ok (.tuple #[.bool true, .int .i64 p, .int .i64 y]) w5 := hrun
          replace hen : (Instr.entry (.pointer (some ⟨r, 0, none⟩))).run Try.prog w5 = .ok (.tuple #[.int .i64 p, .int .i64 y]) w5 := hen
          have hCW' := hCW.keep hgr' (by omega) (by omega) (by omega) (by omega) (by omega) (by omega) HGV.out
          have hnp : p ∉ dn := by
            intro hp
            rw [hlf p] at hlp
            simp [hp] at hlp
          have hsc : sumT hold age e f (p :: dn) = mn age (e - y) * hold + sumT hold age e f dn := by simp [sumT, hfp]
          have hnx : RInv T M B w.heap.size (w.heap.size + 1) base r lv (.slice Ag gs.length cg) gs f cnt e hold win age N0 w (.int .i64 (N0 + (mn age (e - y) * hold + sumT hold age e f dn))) w5 := by
            refine ⟨p :: dn, _, cl', List.nodup_cons.2 ⟨hnp, hnd⟩, ?_, hir', ?_, by simp; omega, by rw [hsc], hCW'⟩
            · intro q hq
              rcases List.mem_cons.1 hq with rfl | hq
              · rw [hfp]; rfl
              · exact hds q hq
            · intro q
              show (left q && !(q == p)) = _
              rw [hlf q, List.contains_cons]
              cases (f q).isSome <;> cases dn.contains q <;> cases (q == p) <;> rfl
          have hwe : IntKind.i64.wrap (e - y) = e - y := IntWalk.i64_in _ (by omega)
          have hm : 0 ≤ mn age (e - y) ∧ mn age (e - y) ≤ 1000000000 := by unfold mn; split <;> omega
          have hcl1 := fun W (hW : W.cell? ⟨B, 0, none⟩ = some (.int .i64 age)) => agedC_any B age (e - y) W hW
          have hq := mul_bd hm.1 hm.2 h0 h1
          have HNX := Aside0.mk hnx
          have t3 : w5.cell? ⟨T, 3, none⟩ = some (.int .i64 e) := (blk_cell hCW'.2.1 3).trans rfl
          have x1 : w5.cell? ⟨w.heap.size, 0, none⟩ = some (.int .i64 hold) := (blk_cell hCW'.2.2.2.2.2.1 0).trans rfl
          have x3 : w5.cell? ⟨w.heap.size + 1, 0, none⟩ = some (.func (.func 43) #[] #[.pointer (some ⟨B, 0, none⟩)]) := (blk_cell hCW'.2.2.2.2.2.2 0).trans rfl
          have x4 : w5.cell? ⟨B, 0, none⟩ = some (.int .i64 age) := (blk_cell hCW'.2.2.2.2.1 0).trans rfl
          have HLL := Aside0.mk (show w5.rangeLeft M r < wr.rangeLeft M r by rw [hir'.left_eq, hle0]; exact hlt')
          clear hnx hnd hds hir hlf hCW hCW' hir' hgr' hlp hfp hsc hnp hle0
          generalize mn age (e - y) = h at *
          have hwq : IntKind.i64.wrap (h * hold) = h * hold := IntWalk.i64_in _ (by omega)
          generalize sumT hold age e f dn = S at *
          go_wp2_with fail
          go_region_held3 (fun w' => w'.cell? ⟨T, 3, none⟩ = some (.int .i64 e) ∧ w'.cell? ⟨w.heap.size, 0, none⟩ = some (.int .i64 hold) ∧ w'.cell? ⟨w.heap.size + 1, 0, none⟩ = some (.func (.func 43) #[] #[.pointer (some ⟨B, 0, none⟩)]) ∧ w'.cell? ⟨B, 0, none⟩ = some (.int .i64 age))
            (first | go_keep | (refine ⟨?_, ?_, ?_, ?_⟩ <;> first | assumption | go_simp))
            ((go_at_call 43; refine (hcl1 _ ?c1).mono ?_; (case c1 => go_simp); rintro e w' ⟨rfl, rfl⟩))
          go_wp2
          go_roundw
          case rel =>
            have e1 : wrap64 (N0 + S + wrap64 (h * hold)) = N0 + (h * hold + S) := by unfold wrap64; omega
            have e2 : wrap64 (N0 + S + h * hold) = N0 + (h * hold + S) := by unfold wrap64; omega
            have e3 : N0 + S + h * hold = N0 + (h * hold + S) := by omega
            have e4 : IntKind.i64.wrap (N0 + S + h * hold) = N0 + (h * hold + S) := by rw [IntWalk.i64_in _ (by omega)]; omega
            first
              | (rw [e4]; exact ⟨HNX.out.drew⟩)
              | (rw [e1]; exact ⟨HNX.out.drew⟩)
              | (rw [e2]; exact ⟨HNX.out.drew⟩)
              | (rw [e3]; exact ⟨HNX.out.drew⟩)
          case measure => exact HLL.out
end Go.Proofs.Ytdkfmbammdmohaa.PPolicyCosts

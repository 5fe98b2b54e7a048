/- trace.most: what it comes to. -/
import Derived.Test.YtdkfmbammdmohaaF0
import Derived.Test.YtdkfmbammdmohaaC1
import Derived.OwnWalk
import Derived.BigQuiet
import Derived.IntWalk
namespace Go.Proofs.Ytdkfmbammdmohaa.PPolicyCosts
open Go.RowKit Go.Proofs.YtdkfmbammdmohaaW.PrintWords Go.Proofs.YtdkfmbammdmohaaW.PrintLast Go.Proofs.YtdkfmbammdmohaaW.PrintMore
open Go.Proofs.YtdkfmbammdmohaaM Go.Proofs.YtdkfmbammdmohaaS
attribute [local go_sem] max2_int min2_int max_two min_two max_three min_three max_four min_four
set_option linter.unusedVariables false
set_option linter.unusedSimpArgs false

theorem info90 : (Try.prog.info? 90).map (fun i => (i.zero, i.size, i.bytes)) = some (some (.agg #[(.int .i64 0), (.bool false), (.int .i64 0)]), 3, 24) := by kernel_rfl

section
variable {P : Program} {ops : Array Oper} {rest : List Oper} {o : Oper} {a : Act} {Q : Exit → Act → World → Prop}
/-- append(v, x ..) of m elements, the row owned -/
theorem wp_appM {w0 W : World} (base m : Nat) (hgd : o.guard = none) (s x : Operand) (t e : TypeId) (z : Value) (size bytes : Nat)
    (ho : o.op = .call { callee := .builtin .append, args := #[s, x], argTypes := #[t, t] })
    (ht : P.underlying t = some (.slice e)) (hinfo : (P.info? e).map (fun i => (i.zero, i.size, i.bytes)) = some (some z, size, bytes)) (hz : z.cells.size = size) (hs0 : 0 < size) (hb0 : 0 < bytes)
    (v : Value) (n : Nat) (xs ys : List Value) (hs : a.eval s = v) (hx : a.eval x = .slice (some ⟨W.heap.size, 0, none⟩) m m) (hys : ys.length = m * size) (h1 : ∀ u ∈ ys, u.oneCell' = true)
    (HO : W.ownsRow base e size v n xs) (HB : Below base w0 W) (hbase : base ≤ W.heap.size) (hl : (n + m) * bytes ≤ 140737488355328)
    (h : ∀ v1 w1, w1.ownsRow base e size v1 (n + m) (xs ++ ys) → Below base w0 w1 → W.grownBy w1 v.ownBlock → (v1.ownBlock = v.ownBlock ∨ ∃ b, v1.ownBlock = some b ∧ W.heap.size ≤ b) → wpList P ops Q rest (a.put o.dst v1) w1) :
    wpList P ops Q (o :: rest) a (W.alloc (.cells ys.toArray e)) := by
  obtain ⟨i0, hi, hzz⟩ := Option.map_eq_some_iff.1 hinfo
  simp only [Prod.mk.injEq] at hzz
  obtain ⟨hz0, hz1, hz2⟩ := hzz
  have hlen : n + m ≤ 140737488355328 := Nat.le_trans (Nat.le_mul_of_pos_right _ hb0) hl
  refine wpList_append_own_at (W.alloc (.cells ys.toArray e)) hgd s x t ho base e i0 z size bytes ht hi hz0 hz1 hz2 hz hs0 v n xs hs (HO.alloc _) ⟨W.heap.size, 0, none⟩ m m ys hx hys
    (by simpa using World.news_of_block (cs := ys.toArray) (t := e) (fr := (0, 0)) (heap_alloc_new W (.cells ys.toArray e))) h1 (by simp only [maxLen]; omega) hl (by simp; omega) ?_
  intro v1 w1 hown hg _ hat
  refine h v1 w1 hown ((HB.alloc hbase _).grown hg (by simp; omega) (own_base HO)) (World.grownBy.trans (World.grownBy_alloc W _ _) hg) ?_
  rcases hat with hat | hat
  · exact .inl hat
  · exact .inr ⟨_, hat, by simp⟩
/-- append(v, x) to a queue -/
theorem wp_appQ {w0 W : World} (base : Nat) (hgd : o.guard = none) (s x : Operand) (t e : TypeId) (z : Value) (size bytes : Nat)
    (ho : o.op = .call { callee := .builtin .append, args := #[s, x], argTypes := #[t, t] })
    (ht : P.underlying t = some (.slice e)) (hinfo : (P.info? e).map (fun i => (i.zero, i.size, i.bytes)) = some (some z, size, bytes)) (hz : z.cells.size = size) (hs0 : 0 < size) (hb0 : 0 < bytes)
    (v : Value) (n : Nat) (xs ys : List Value) (hs : a.eval s = v) (hx : a.eval x = .slice (some ⟨W.heap.size, 0, none⟩) 1 1) (hys : ys.length = size) (h1 : ∀ u ∈ ys, u.oneCell' = true)
    (HO : QRow W base e size v n xs) (HB : Below base w0 W) (hbase : base ≤ W.heap.size) (hl : (n + 1) * bytes ≤ 140737488355328)
    (h : ∀ v1 w1, QRow w1 base e size v1 (n + 1) (xs ++ ys) → Below base w0 w1 → W.grownBy w1 v.ownBlock → wpList P ops Q rest (a.put o.dst v1) w1) :
    wpList P ops Q (o :: rest) a (W.alloc (.cells ys.toArray e)) := by
  obtain ⟨i0, hi, hzz⟩ := Option.map_eq_some_iff.1 hinfo
  simp only [Prod.mk.injEq] at hzz
  obtain ⟨hz0, hz1, hz2⟩ := hzz
  have hlen : n + 1 ≤ 140737488355328 := Nat.le_trans (Nat.le_mul_of_pos_right _ hb0) hl
  have hq : QRow (W.alloc (.cells ys.toArray e)) base e size v n xs := q_move HO (fun k hk => Below.heap_alloc W _ k (q_lt HO k hk))
  obtain ⟨v1, w1, hr, h2, h3, h4⟩ := q_append (P := P) (W.alloc (.cells ys.toArray e)) base t o.type e i0 z size bytes ht hi hz0 hz1 hz2 hz hs0 v n xs hq ⟨W.heap.size, 0, none⟩ 1 1 ys (by rw [hys, Nat.one_mul])
    (by simpa using World.news_of_block (cs := ys.toArray) (t := e) (fr := (0, 0)) (heap_alloc_new W (.cells ys.toArray e))) h1 (by omega) (by simp only [maxLen]; omega) hl (by simp; omega)
  have hg : W.grownBy w1 v.ownBlock := World.grownBy.trans (World.grownBy_alloc W _ _) h3
  refine wpList_plain hgd fun K hK => ?_
  unfold Oper.wp execOp
  simp only [ho, resolve, invoke, builtin, Sem.run_bind, Sem.run_pure, Result.andThen_ok, List.map_toArray, List.map_cons, List.map_nil, hs, hx, hr]
  exact hK _ _ (h v1 w1 h2 (HB.grown hg hbase (fun k hk => (q_typed HO k hk).1)) hg)
end

theorem evict_stop (hold a limit n : Int) (q : List S98) (h : ¬ limit < (q.length : Int)) : evict hold a limit n q = (n, q) := by
  cases q with
  | nil => rfl
  | cons x q => rw [evict, if_neg h]

def MostPost (hold win limit e : Int) (l : List S73) (w : World) (en : Ending) (w' : World) : Prop :=
  Below w.heap.size w w' ∧ ∃ ss : List S90, ss.Perm (stepsOf l) ∧ ss.Pairwise (fun x y => ltOf cmpStep y x = false) ∧ en = .returned (.int .i64 (mostQ hold win limit e ss))

/-- The steps, as they are laid. -/
def StI (w : World) (hold win : Int) (l : List S73) (k : Nat) (v : Value) (wr : World) : Prop :=
  Below w.heap.size w wr ∧ wr.heap[w.heap.size]? = some (.cells #[.int .i64 hold, .int .i64 win] 24 (0, 0)) ∧ wr.ownsRow w.heap.size 90 3 v (stepsOf (l.take k)).length ((stepsOf (l.take k)).flatMap e90)

theorem q_below {w w1 : World} {base n size : Nat} {e : TypeId} {v : Value} {xs : List Value} (h : QRow w base e size v n xs) (hb : Below w.heap.size w w1) : QRow w1 base e size v n xs := q_move h (fun k hk => hb.block k (q_lt h k hk))

def lenV : Value → Nat
  | .slice _ n _ => n
  | _ => 0

set_option maxRecDepth 100000 in
set_option maxHeartbeats 8000000 in
theorem most_any (T base : Nat) (A : Option Addr) (c : Nat) (l : List S73) (gs : List S52) (f : Int → Option Int) (cnt : Nat) (e hold win limit : Int) (w : World) (hT : TraceAt w base T (.slice A l.length c) gs f cnt e) (hC : Kd.C k73 w A l.length l) (hl : l.length ≤ 200)
    (hL : 0 ≤ limit) :
    Calls Try.prog 25 #[.pointer (some ⟨T, 0, none⟩), .agg #[.int .i64 hold, .int .i64 win], .int .i64 limit] w (MostPost hold win limit e l w) := by
  obtain ⟨gv, M, hb, hT, hG, hMb, hM⟩ := hT
  have t0 : w.cell? ⟨T, 0, none⟩ = some (.slice A l.length c) := (blk_cell hT 0).trans rfl
  have hTlt : T < w.heap.size := blk_lt hT
  have HT := Aside0.mk hT
  have HC := Aside0.mk hC
  clear hT hC hG hM hb hMb
  go_enter Try.func25, Try.ntmps25
  go_wp2
  go_loopw [7, 22] (fun v7 v22 wr => ∃ k : Nat, k ≤ l.length ∧ v22 = .int .i64 k ∧ Aside0 (StI w hold win l k v7 wr)) (fun v7 v22 wr => l.length - (intOf v22).toNat)
  case atStart =>
    refine ⟨0, Nat.zero_le _, rfl, ⟨?_, ?_, ?_⟩⟩
    · repeat (first | exact Below.refl _ _ | apply below_drew | apply below_alloc)
    · with_reducible repeat (first | exact blk_new _ _ | refine blk_alloc ?_ _)
    · exact own_nil _ _ _ _
  case round =>
    obtain ⟨k, hk, rfl, HI⟩ := hrel
    have hlen : l.length ≤ 9223372036854775807 := by omega
    by_cases hlt : k < l.length
    · have hC1 := Kd.C_below HC.out HI.out.1
      obtain ⟨ad, rfl, hx0, hx1, hx2⟩ := at_T73 hC1 (k : Int) (by omega) (by omega)
      have hu : rd_T73 l (k : Int) = l[k] := by
        unfold rd_T73
        rw [Int.toNat_natCast, List.getD_eq_getElem?_getD, List.getElem?_eq_getElem hlt]
        rfl
      rw [hu] at hx0 hx1 hx2
      simp only [Int.toNat_natCast] at hx0 hx1 hx2
      have HTK := Aside0.mk (take_snoc' l k hlt)
      generalize l[k] = u at *
      clear hC1 hu
      have hsz : w.heap.size < wr.heap.size := blk_lt HI.out.2.1
      have hol := stepsOf_len (l.take k)
      rw [List.length_take, Nat.min_eq_left hk] at hol
      go_wp2_with (at_builtin; go_loud (refine wp_appM (w0 := w) (W := wr.alloc (.cells #[.int .i64 u.f0, .int .i64 u.f1, .int .i64 u.f2] 73)) w.heap.size 2 (by rfl) _ _ 88 90 _ 3 24 (by rfl) Try.underlying88 info90 (by rfl) (by omega) (by omega) _ (stepsOf (l.take k)).length ((stepsOf (l.take k)).flatMap e90) [.int .i64 u.f1, .bool true, .int .i64 u.f0, .int .i64 u.f2, .bool false, .int .i64 u.f0] (by rfl) (by rw [World.size_alloc]; rfl) (by rfl) (by intro y hy; simp at hy; rcases hy with rfl | rfl | rfl | rfl | rfl | rfl <;> rfl) (HI.out.2.2.alloc _) (HI.out.1.alloc (by omega) _) (by simp; omega) (by omega) ?_); intro v1 w1 hown hbel hgr hat)
      go_roundw
      case rel =>
        refine ⟨k + 1, by omega, by go_num, ⟨hbel, ?_, ?_⟩⟩
        · exact blk_grown (blk_alloc HI.out.2.1 _) hgr (own_ne HI.out.2.2 HI.out.2.1 (by decide))
        · rw [HTK.out, stepsOf_snoc, List.length_append, List.flatMap_append]
          exact hown
      case measure => simp [intOf]; omega
    · obtain rfl : k = l.length := by omega
      have hsz := stepsOf_len l
      have HI2 := HI.out
      unfold StI at HI2
      rw [List.take_length] at HI2
      obtain ⟨hBr, hcr, hor⟩ := HI2
      have HBr := Aside0.mk hBr
      have HCr := Aside0.mk hcr
      have HOr := Aside0.mk hor
      clear hBr hcr hor HI
      go_wp2_with (go_at_call 44; refine (sortStep_own w.heap.size _ (stepsOf l) wr HOr.out (by omega)).mono ?_; rintro en w2 ⟨rfl, ss, hperm, hsort, hown, hgr⟩)
      have hb2 : Below w.heap.size w w2 := HBr.out.grown hgr HBr.out.size (fun k hk => own_base HOr.out k hk)
      have hc2 := blk_grown HCr.out hgr (own_ne HOr.out HCr.out (by decide))
      obtain ⟨As, cs, rfl, hcs, hCs⟩ := own_C90 hown
      have hsl : ss.length = l.length * 2 := by rw [hperm.length_eq]; exact stepsOf_len l
      have HCS := Aside0.mk hCs
      have HP := Aside0.mk hperm
      have HS := Aside0.mk hsort
      have HB2 := Aside0.mk hb2
      have HC2 := Aside0.mk hc2
      have HT2 := Aside0.mk (blk_below HT.out hb2)
      clear hperm hsort hown hgr HBr HCr HOr hb2 hc2 hCs
      have hslb : ss.length ≤ 9223372036854775807 := by omega
      have HSL := Aside0.mk hsl
      have h400 : ss.length ≤ 400 := by omega
      clear hsl hsz hlt hk
      go_wp2
      go_simp
      go_wp2
      go_loopw [10, 11, 44] (fun v10 v11 v44 wr => ∃ i : Nat, i ≤ ss.length ∧ v44 = .int .i64 i ∧ v10 = .int .i64 (runQ hold win limit ss i).1 ∧ Aside0 (Below w2.heap.size w2 wr ∧ Qu wr w2.heap.size v11 (runQ hold win limit ss i).2 ∧ (runQ hold win limit ss i).2.length ≤ i)) (fun v10 v11 v44 wr => ss.length - (intOf v44).toNat)
      case atStart => exact ⟨0, Nat.zero_le _, rfl, rfl, ⟨Below.refl _ _, q_of_own (own_nil _ _ _ _), Nat.le_refl _⟩⟩
      case round =>
        obtain ⟨i, hi, rfl, rfl, HI⟩ := hrel
        by_cases hlt : i < ss.length
        · have hltz : (i : Int) < (ss.length : Int) := by omega
          obtain ⟨ad, rfl, hs0, hs1, hs2⟩ := at_T90 (Kd.C_below HCS.out (below_step (Below.refl _ _) HI.out.1)) (i : Int) (by omega) hltz
          simp only [Int.toNat_natCast] at hs0 hs1 hs2
          have HQ := Aside0.mk HI.out.2.1
          have hql := HI.out.2.2
          have HBr := Aside0.mk HI.out.1
          have HRQ := Aside0.mk (show runQ hold win limit ss (i + 1) = stepQ hold win limit (lastAt ss i) (rd_T90 ss (i : Int)) (runQ hold win limit ss i) from rfl)
          clear HI
          generalize hs : rd_T90 ss (i : Int) = s at *
          generalize hr : runQ hold win limit ss i = st at *
          obtain ⟨n, q⟩ := st
          obtain ⟨at_, bg, pg⟩ := s
          simp only at hs0 hs1 hs2 hql
          replace HQ := Aside0.mk (show Qu wr w2.heap.size _ q from HQ.out)
          have hBW : ∀ W, Below w2.heap.size w2 W → (W.cell? ⟨w.heap.size, 0, none⟩ = some (.int .i64 hold) ∧ W.cell? ⟨w.heap.size, 1, none⟩ = some (.int .i64 win)) := fun W hW => ⟨(blk_cell (blk_below HC2.out hW) 0).trans rfl, (blk_cell (blk_below HC2.out hW) 1).trans rfl⟩
          have HBW := Aside0.mk hBW
          clear hBW
          have HRR := Aside0.mk hr
          have HSS := Aside0.mk hs
          clear hr hs
          have hm1 : IntKind.i64.wrap ((i : Int) + 1) = (i : Int) + 1 := IntWalk.i64_in _ (by omega)
          cases bg with
          | true =>
            have hix : (idxW q pg = -1) ∨ ∃ k : Nat, idxW q pg = k ∧ k < q.length := by
              unfold idxW
              cases hf : q.findIdx? (fun y => y.f1 == pg) with
              | none => exact .inl rfl
              | some k => exact .inr ⟨k, rfl, (List.findIdx?_eq_some_iff_getElem.1 hf).1⟩
            rcases hix with hix | ⟨k, hix, hkq⟩
            · have HIX := Aside0.mk hix
              have hidx := idx_any w2.heap.size wr.heap.size _ q at_ pg true (wr.alloc (.cells #[.int .i64 at_, .bool true, .int .i64 pg] 90)) (q_below HQ.out (below_alloc (Below.refl _ _) _)) (blk_new _ _)
              rw [hix] at hidx
              clear hix
              go_wp2_with (go_at_call 48; refine hidx.mono ?_; rintro en w3 ⟨rfl, hb3⟩; have hb4 := below_step HBr.out (below_step (below_alloc (Below.refl _ _) _) hb3); have hcw := (HBW.out _ hb4).2)
              go_roundw
              case rel =>
                refine ⟨i + 1, by omega, by go_num, ?_, ⟨hb4, ?_, ?_⟩⟩
                · rw [HRQ.out]; simp [stepQ, HIX.out, wrap64]
                · rw [HRQ.out]; simp [stepQ, HIX.out]; exact q_below HQ.out (below_step (below_alloc (Below.refl _ _) _) hb3)
                · rw [HRQ.out]; simp [stepQ, HIX.out]; omega
              case measure => simp [intOf]; omega
            · obtain ⟨Aq, cq, rfl, hcq⟩ := q_slice HQ.out
              have HIX := Aside0.mk hix
              have hidx := idx_any w2.heap.size wr.heap.size _ q at_ pg true (wr.alloc (.cells #[.int .i64 at_, .bool true, .int .i64 pg] 90)) (q_below HQ.out (below_alloc (Below.refl _ _) _)) (blk_new _ _)
              rw [hix] at hidx
              clear hix
              have hq5 : ∃ adq, Aq = some adq ∧ ∀ W, Below wr.heap.size wr W → W.cell? (adq.add (k * 2)) = some (.int .i64 (rd_T98 q k).f0) := by
                obtain ⟨_, _, hk9⟩ := qu_C98 HQ.out
                obtain ⟨adq, he, h1, _⟩ := at_T98 hk9 (k : Int) (by omega) (by omega)
                refine ⟨adq, he, fun W hW => ?_⟩
                obtain ⟨adq', he', h1', _⟩ := at_T98 (qu_C98 (q_below HQ.out hW)).2.2 (k : Int) (by omega) (by omega)
                rw [he] at he'
                injection he' with he'
                subst he'
                simpa using h1'
              obtain ⟨adq, rfl, hqc⟩ := hq5
              have HQC := Aside0.mk hqc
              clear hqc
              have hk1 : (0 : Int) ≤ (k : Int) := by omega
              have hk2 : (k : Int) < (q.length : Int) := by omega
              have hk3 : ¬ (k : Int) < 0 := by omega
              have hk4 : IntKind.i64.wrap ((k : Int) + 1) = (k : Int) + 1 := IntWalk.i64_in _ (by omega)
              generalize hrd : (rd_T98 q (k : Int)).f0 = since at *
              have HRD := Aside0.mk hrd
              clear hrd
              go_wp2_with (go_at_call 48; refine hidx.mono ?_; rintro en w3 ⟨rfl, hb3⟩)
              have hb5 := below_step (below_alloc (Below.refl wr.heap.size wr) _) hb3
              have hb4 := below_step HBr.out hb5
              have hc0 := (HBW.out _ hb4).1
              have hqc := HQC.out _ hb5
              have hx0 : w3.cell? ⟨wr.heap.size, 0, none⟩ = some (.int .i64 at_) := (blk_cell (blk_below (blk_new _ _) hb3) 0).trans rfl
              have HB4 := Aside0.mk hb4
              have HB5 := Aside0.mk hb5
              clear hb3 hb4 hb5
              go_region_held3 (fun w' => w'.cell? ⟨w.heap.size, 0, none⟩ = some (.int .i64 hold) ∧ w'.cell? (adq.add (k * 2)) = some (.int .i64 since) ∧ w'.cell? ⟨wr.heap.size, 0, none⟩ = some (.int .i64 at_))
                (first | go_keep | (refine ⟨?_, ?_, ?_⟩ <;> first | assumption | go_simp)) (fail)
              go_wp2_with (go_at_call 50; refine (delete_any w2.heap.size k _ q w3.drew (q_below HQ.out (below_drew HB5.out)) hkq).mono ?_; rintro en w4 ⟨v', rfl, hq', hob, hgr⟩)
              go_roundw
              case rel =>
                have hnk : ¬ idxW q pg < 0 := by rw [HIX.out]; omega
                have htn : (idxW q pg).toNat = k := by rw [HIX.out]; omega
                have hst : stepQ hold win limit (lastAt ss i) ⟨at_, true, pg⟩ (n, q) = (wrap64 (n + wrap64 (wrap64 (at_ - since) * hold)), q.eraseIdx k) := by
                  simp only [stepQ, if_true, if_neg hnk, htn]
                  rw [HIX.out, HRD.out]
                rw [hst] at HRQ
                refine ⟨i + 1, by omega, by go_num, ?_, ⟨(below_drew HB4.out).grown hgr (below_drew HB4.out).size (fun j hj => (q_typed HQ.out j hj).1), ?_, ?_⟩⟩
                · rw [HRQ.out]
                  simp only [IntWalk.i64_left]
                · rw [HRQ.out]; exact hq'
                · rw [HRQ.out]; simp only [List.length_eraseIdx]; split <;> omega
              case measure => simp [intOf]; omega
          | false =>
            have hqcl : q.length ≤ 400 := by omega
            have hsz2 : w2.heap.size ≤ wr.heap.size := HBr.out.size
            go_wp2_with (at_builtin; go_loud (refine wp_appQ (w0 := w2) (W := wr.alloc (.cells #[.int .i64 at_, .bool false, .int .i64 pg] 90)) w2.heap.size (by rfl) _ _ 95 98 _ 2 16 (by rfl) Try.underlying95 info98 (by rfl) (by omega) (by omega) _ q.length (q.flatMap e98) [.int .i64 at_, .int .i64 pg] (by rfl) (by rw [World.size_alloc]; rfl) (by rfl) (by intro y hy; simp at hy; rcases hy with rfl | rfl <;> rfl) (q_below HQ.out (below_alloc (Below.refl _ _) _)) (below_step HBr.out (below_alloc (Below.refl _ _) _)) (by simp; omega) (by omega) ?_); intro v1 w1 hq1 hbel hgr)
            refine genW (fun W => Below w2.heap.size w2 W ∧ Qu W w2.heap.size v1 (q ++ [⟨at_, pg⟩]) ∧ W.heap[wr.heap.size]? = some (.cells #[.int .i64 at_, .bool false, .int .i64 pg] 90 (0, 0))) ⟨hbel, ?_, ?_⟩ ?_
            · show QRow _ _ _ _ _ (q ++ [_]).length ((q ++ [_]).flatMap e98)
              rw [List.length_append, List.flatMap_append]
              exact hq1
            · refine blk_grown (blk_new wr _) hgr (fun h => ?_)
              have := q_lt HQ.out wr.heap.size h.symm
              omega
            clear hbel hq1 hgr
            rintro w3 ⟨hb3, hq3, hx3⟩
            generalize wr.heap.size = bx at *
            go_loopw [10, 11] (fun v10 v11 wx => ∃ (n' : Int) (q' : List S98), v10 = .int .i64 n' ∧ Aside0 (Below w2.heap.size w2 wx ∧ Qu wx w2.heap.size v11 q' ∧ wx.heap[bx]? = some (.cells #[.int .i64 at_, .bool false, .int .i64 pg] 90 (0, 0)) ∧ q'.length ≤ i + 1 ∧ (if lastAt ss i = true then evict hold at_ limit n' q' else (n', q')) = runQ hold win limit ss (i + 1))) (fun v10 v11 wx => lenV v11)
            case atStart =>
              refine ⟨n, _, rfl, ⟨hb3, hq3, hx3, by simp; omega, ?_⟩⟩
              rw [HRQ.out]
              simp [stepQ]
            case round =>
              obtain ⟨n', q', rfl, HI⟩ := hrel
              obtain ⟨hb4, hq4, hx4, hl4, hev⟩ := HI.out
              obtain ⟨Aq, cq, rfl, hcq⟩ := q_slice hq4
              have c0 := (HBW.out _ hb4).1
              have x0 : wr.cell? ⟨bx, 0, none⟩ = some (.int .i64 at_) := (blk_cell hx4 0).trans rfl
              have HEV := Aside0.mk hev
              have HB4 := Aside0.mk hb4
              have HQ4 := Aside0.mk hq4
              have HX4 := Aside0.mk hx4
              have hqm := q_max hq4
              clear HI hev hb4 hq4 hx4
              by_cases hlim : limit < (q'.length : Int)
              · have hg1 : decide ((q'.length : Int) > limit) = true := by simpa using hlim
                by_cases hend : i + 1 = ss.length
                · have hg2 : ((i : Int) + 1 == (ss.length : Int)) = true := by simp; omega
                  have hlast : lastAt ss i = true := by simp [lastAt, hend]
                  have HLA := Aside0.mk hlast
                  clear hlast
                  go_wp2
                  go_quiet (fail)
                  go_wp2
                  refine genW (fun W => Below w2.heap.size w2 W ∧ Qu W w2.heap.size (.slice Aq q'.length cq) q' ∧ W.heap[bx]? = some (.cells #[.int .i64 at_, .bool false, .int .i64 pg] 90 (0, 0))) ⟨pw_below_drewN HB4.out _, q_below HQ4.out (pw_below_drewN (Below.refl _ _) _), blk_drewN HX4.out _⟩ ?_
                  clear HB4 HQ4 HX4 c0 x0
                  rintro wq ⟨hbq, hqq, hxq⟩
                  have hev := HEV.out
                  rw [if_pos HLA.out] at hev
                  obtain ⟨x, q2, rfl⟩ : ∃ x q2, q' = x :: q2 := by
                    cases q' with
                    | nil => simp at hlim; omega
                    | cons x q2 => exact ⟨x, q2, rfl⟩
                  rw [evict, if_pos hlim] at hev
                  have HEV := Aside0.mk hev
                  clear hev
                  have c0 := (HBW.out _ hbq).1
                  have x0 : wq.cell? ⟨bx, 0, none⟩ = some (.int .i64 at_) := (blk_cell hxq 0).trans rfl
                  obtain ⟨adq, rfl, hq0, _⟩ := at_T98 (qu_C98 hqq).2.2 (0 : Int) (by omega) (by simp only [List.length_cons]; omega)
                  obtain ⟨g, o, rfl⟩ : ∃ g o, adq = ⟨g, o, none⟩ := by
                    rcases hqq.2 with ⟨h0, _⟩ | ⟨g, off, cap, cur, he, _⟩
                    · simp at h0
                    · injection he with he; injection he with he
                      exact ⟨_, _, he⟩
                  have ea : (⟨g, o, none⟩ : Addr).add 0 = ⟨g, o, none⟩ := rfl
                  have er : rd_T98 (x :: q2) 0 = x := rfl
                  rw [er] at hq0
                  simp only [Int.toNat_zero, Nat.zero_mul, ea] at hq0
                  clear ea er
                  have hqd := q_drop (k := 1) hqq (by simp only [List.length_cons]; omega)
                  have HXQ := Aside0.mk hxq
                  have HBQ := Aside0.mk hbq
                  have HQD := Aside0.mk hqd
                  have hq1 : 1 ≤ (x :: q2).length := by simp only [List.length_cons]; omega
                  have hqz : (0 : Int) < ((x :: q2).length : Int) := by omega
                  have hqz1 : (1 : Int) ≤ ((x :: q2).length : Int) := by omega
                  have hcz : (1 : Int) ≤ (cq : Int) := by omega
                  have hc1 : 1 ≤ cq := by omega
                  have hqp : 0 < (x :: q2).length := hq1
                  clear hxq hbq hqd hqq
                  generalize hqle : (x :: q2).length = ql at *
                  have HLL : Aside0 (ql = q2.length + 1) := ⟨hqle.symm⟩
                  clear hqle
                  go_region_held3 (fun w' => w'.cell? ⟨w.heap.size, 0, none⟩ = some (.int .i64 hold) ∧ w'.cell? ⟨g, o, none⟩ = some (.int .i64 x.f0) ∧ w'.cell? ⟨bx, 0, none⟩ = some (.int .i64 at_))
                    (first | go_keep | (refine ⟨?_, ?_, ?_⟩ <;> first | assumption | go_simp)) (fail)
                  go_wp2
                  go_roundw
                  case rel =>
                    refine ⟨_, q2, by simp only [IntWalk.i64_left]; rfl, ⟨below_drew HBQ.out, ?_, HXQ.out, by have := HLL.out; omega, ?_⟩⟩
                    · have h := q_below HQD.out (below_drew (Below.refl _ _))
                      have hl1 : ql - 1 = q2.length := by have := HLL.out; omega
                      rw [hl1] at h ⊢
                      by_cases hc : cq = 1
                      · simpa [hc, e98] using h
                      · simpa [hc, e98, Addr.add] using h
                    · rw [if_pos HLA.out]
                      exact HEV.out
                  case measure => have := HLL.out; simp [lenV]; omega
                · have hg2 : ((i : Int) + 1 == (ss.length : Int)) = false := by simp; omega
                  have hnl : (i : Int) + 1 < (ss.length : Int) := by omega
                  have hn0 : (0 : Int) ≤ (i : Int) + 1 := by omega
                  have hnt : ((i : Int) + 1).toNat = i + 1 := by omega
                  obtain ⟨ad', e', hy0, _, _⟩ := at_T90 (Kd.C_below HCS.out HB4.out) ((i : Int) + 1) hn0 hnl
                  injection e' with e'
                  subst e'
                  rw [hnt] at hy0
                  by_cases hgt : (rd_T90 ss ((i : Int) + 1)).f0 > at_
                  · have hlast : lastAt ss i = true := by simp [lastAt, HSS.out, hgt]
                    have HLA := Aside0.mk hlast
                    clear hlast
                    generalize rd_T90 ss ((i : Int) + 1) = s2 at *
                    have hg3 : decide (s2.f0 > at_) = true := by simpa using hgt
                    go_wp2
                    go_quiet (fail)
                    go_wp2
                    refine genW (fun W => Below w2.heap.size w2 W ∧ Qu W w2.heap.size (.slice Aq q'.length cq) q' ∧ W.heap[bx]? = some (.cells #[.int .i64 at_, .bool false, .int .i64 pg] 90 (0, 0))) ⟨pw_below_drewN HB4.out _, q_below HQ4.out (pw_below_drewN (Below.refl _ _) _), blk_drewN HX4.out _⟩ ?_
                    clear HB4 HQ4 HX4 c0 x0
                    rintro wq ⟨hbq, hqq, hxq⟩
                    have hev := HEV.out
                    rw [if_pos HLA.out] at hev
                    obtain ⟨x, q2, rfl⟩ : ∃ x q2, q' = x :: q2 := by
                      cases q' with
                      | nil => simp at hlim; omega
                      | cons x q2 => exact ⟨x, q2, rfl⟩
                    rw [evict, if_pos hlim] at hev
                    have HEV := Aside0.mk hev
                    clear hev
                    have c0 := (HBW.out _ hbq).1
                    have x0 : wq.cell? ⟨bx, 0, none⟩ = some (.int .i64 at_) := (blk_cell hxq 0).trans rfl
                    obtain ⟨adq, rfl, hq0, _⟩ := at_T98 (qu_C98 hqq).2.2 (0 : Int) (by omega) (by simp only [List.length_cons]; omega)
                    obtain ⟨g, o, rfl⟩ : ∃ g o, adq = ⟨g, o, none⟩ := by
                      rcases hqq.2 with ⟨h0, _⟩ | ⟨g, off, cap, cur, he, _⟩
                      · simp at h0
                      · injection he with he; injection he with he
                        exact ⟨_, _, he⟩
                    have ea : (⟨g, o, none⟩ : Addr).add 0 = ⟨g, o, none⟩ := rfl
                    have er : rd_T98 (x :: q2) 0 = x := rfl
                    rw [er] at hq0
                    simp only [Int.toNat_zero, Nat.zero_mul, ea] at hq0
                    clear ea er
                    have hqd := q_drop (k := 1) hqq (by simp only [List.length_cons]; omega)
                    have HXQ := Aside0.mk hxq
                    have HBQ := Aside0.mk hbq
                    have HQD := Aside0.mk hqd
                    have hq1 : 1 ≤ (x :: q2).length := by simp only [List.length_cons]; omega
                    have hqz : (0 : Int) < ((x :: q2).length : Int) := by omega
                    have hqz1 : (1 : Int) ≤ ((x :: q2).length : Int) := by omega
                    have hcz : (1 : Int) ≤ (cq : Int) := by omega
                    have hc1 : 1 ≤ cq := by omega
                    have hqp : 0 < (x :: q2).length := hq1
                    clear hxq hbq hqd hqq
                    generalize hqle : (x :: q2).length = ql at *
                    have HLL : Aside0 (ql = q2.length + 1) := ⟨hqle.symm⟩
                    clear hqle
                    go_region_held3 (fun w' => w'.cell? ⟨w.heap.size, 0, none⟩ = some (.int .i64 hold) ∧ w'.cell? ⟨g, o, none⟩ = some (.int .i64 x.f0) ∧ w'.cell? ⟨bx, 0, none⟩ = some (.int .i64 at_))
                      (first | go_keep | (refine ⟨?_, ?_, ?_⟩ <;> first | assumption | go_simp)) (fail)
                    go_wp2
                    go_roundw
                    case rel =>
                      refine ⟨_, q2, by simp only [IntWalk.i64_left]; rfl, ⟨below_drew HBQ.out, ?_, HXQ.out, by have := HLL.out; omega, ?_⟩⟩
                      · have h := q_below HQD.out (below_drew (Below.refl _ _))
                        have hl1 : ql - 1 = q2.length := by have := HLL.out; omega
                        rw [hl1] at h ⊢
                        by_cases hc : cq = 1
                        · simpa [hc, e98] using h
                        · simpa [hc, e98, Addr.add] using h
                      · rw [if_pos HLA.out]
                        exact HEV.out
                    case measure => have := HLL.out; simp [lenV]; omega
                  · have hlast : lastAt ss i = false := by simp [lastAt, HSS.out]; omega
                    have HLA := Aside0.mk hlast
                    clear hlast
                    generalize rd_T90 ss ((i : Int) + 1) = s2 at *
                    have hg3 : decide (s2.f0 > at_) = false := by simpa using hgt
                    go_wp2
                    go_quiet (fail)
                    go_wp2
                    go_roundw
                    case rel =>
                      have he : (n', q') = runQ hold win limit ss (i + 1) := by
                        rw [← HEV.out, HLA.out]
                        rfl
                      refine ⟨i + 1, by omega, by go_num, ?_, ⟨pw_below_drewN HB4.out _, ?_, ?_⟩⟩
                      · rw [← he]
                      · rw [← he]; exact q_below HQ4.out (pw_below_drewN (Below.refl _ _) _)
                      · rw [← he]; exact hl4
                    case measure => simp [intOf]; omega
              · have hg1 : decide ((q'.length : Int) > limit) = false := by simpa using hlim
                go_wp2
                go_quiet (fail)
                go_wp2
                go_roundw
                case rel =>
                  have he : (n', q') = runQ hold win limit ss (i + 1) := by
                    rw [← HEV.out, evict_stop _ _ _ _ _ (by omega), ite_self]
                  refine ⟨i + 1, by omega, by go_num, ?_, ⟨pw_below_drewN HB4.out _, ?_, ?_⟩⟩
                  · rw [← he]
                  · rw [← he]; exact q_below HQ4.out (pw_below_drewN (Below.refl _ _) _)
                  · rw [← he]; exact hl4
                case measure => simp [intOf]; omega
        · obtain rfl : i = ss.length := by omega
          obtain ⟨hBr, hQ, hql⟩ := HI.out
          have HMQ := Aside0.mk (show mostQ hold win limit e ss = tailQ hold e (runQ hold win limit ss ss.length).1 (runQ hold win limit ss ss.length).2 from rfl)
          clear HI
          generalize runQ hold win limit ss ss.length = st at *
          obtain ⟨n, q⟩ := st
          simp only at hql hQ
          replace HMQ : Aside0 (mostQ hold win limit e ss = tailQ hold e n q) := ⟨HMQ.out⟩
          replace hQ : Qu wr w2.heap.size _ q := hQ
          obtain ⟨Aq, cq, rfl, hcq⟩ := q_slice hQ
          have hqm := q_max hQ
          have HBr := Aside0.mk hBr
          have HQ := Aside0.mk hQ
          have HCW := Aside0.mk (show ∀ W, Below w2.heap.size w2 W → W.cell? ⟨w.heap.size, 0, none⟩ = some (.int .i64 hold) from fun W hW => (blk_cell (blk_below HC2.out hW) 0).trans rfl)
          have HTW := Aside0.mk (show ∀ W, Below w2.heap.size w2 W → W.cell? ⟨T, 3, none⟩ = some (.int .i64 e) from fun W hW => (blk_cell (blk_below HT2.out hW) 3).trans rfl)
          clear hBr hQ hlt
          go_wp2
          go_loopw [10, 125] (fun v10 v125 wx => ∃ j : Nat, j ≤ q.length ∧ v125 = .int .i64 j ∧ v10 = .int .i64 (tailQ hold e n (q.take j)) ∧ Aside0 (Below wr.heap.size wr wx)) (fun v10 v125 wx => q.length - (intOf v125).toNat)
          case atStart => exact ⟨0, Nat.zero_le _, rfl, rfl, ⟨Below.refl _ _⟩⟩
          case round =>
            obtain ⟨j, hj, rfl, rfl, HBx⟩ := hrel
            by_cases hlt : j < q.length
            · have hjz : (j : Int) < (q.length : Int) := by omega
              have hj0 : (0 : Int) ≤ (j : Int) := by omega
              obtain ⟨adq, rfl, hq0, hq1⟩ := at_T98 (qu_C98 (q_below HQ.out HBx.out)).2.2 (j : Int) (by omega) hjz
              simp only [Int.toNat_natCast] at hq0 hq1
              have hu : rd_T98 q (j : Int) = q[j] := by
                unfold rd_T98
                rw [Int.toNat_natCast, List.getD_eq_getElem?_getD, List.getElem?_eq_getElem hlt]
                rfl
              rw [hu] at hq0 hq1
              have HTK := Aside0.mk (show tailQ hold e n (q.take (j + 1)) = wrap64 (tailQ hold e n (q.take j) + wrap64 (wrap64 (e - q[j].f0) * hold)) by rw [take_snoc' q j hlt]; exact tailQ_snoc hold e n (q.take j) q[j])
              clear hu
              generalize q[j] = x at *
              generalize tailQ hold e n (q.take j) = N at *
              have hb9 := below_step HBr.out HBx.out
              have c0 := HCW.out _ hb9
              have t3 := HTW.out _ hb9
              have hTl : T < w2.heap.size := blk_lt HT2.out
              clear hb9
              go_wp2
              go_region_held3 (fun w' => w'.cell? ⟨w.heap.size, 0, none⟩ = some (.int .i64 hold) ∧ w'.cell? ⟨T, 3, none⟩ = some (.int .i64 e) ∧ w'.cell? ⟨wr.heap.size, 0, none⟩ = some (.int .i64 x.f0))
                (first | go_keep | (refine ⟨?_, ?_, ?_⟩ <;> first | assumption | go_simp)) (fail)
              go_wp2
              go_roundw
              case rel => exact ⟨j + 1, by omega, by go_num, by rw [HTK.out]; simp only [IntWalk.i64_left], ⟨by repeat (first | exact HBx.out | apply below_drew | apply below_alloc)⟩⟩
              case measure => simp [intOf]; omega
            · obtain rfl : j = q.length := by omega
              rw [List.take_length]
              go_wp2
              go_ret
              exact ⟨below_step HB2.out (below_step HBr.out HBx.out), ss, HP.out, HS.out, by rw [HMQ.out]; rfl⟩
end Go.Proofs.Ytdkfmbammdmohaa.PPolicyCosts

/- slices.Delete of one page that waits. -/
import Derived.Test.YtdkfmbammdmohaaZ3
import Derived.Outline
import Derived.Deep.RegionLaw
import Derived.Deep.DeepMust
namespace Go.Proofs.Ytdkfmbammdmohaa.PPolicyCosts
open Go.RowKit Go.Proofs.YtdkfmbammdmohaaW.PrintWords Go.Proofs.YtdkfmbammdmohaaW.PrintLast Go.Proofs.YtdkfmbammdmohaaW.PrintMore
open Go.Proofs.YtdkfmbammdmohaaM Go.Proofs.YtdkfmbammdmohaaS
attribute [local go_sem] max2_int min2_int max_two min_two max_three min_three max_four min_four
set_option linter.unusedVariables false
set_option linter.unusedSimpArgs false

theorem info98 : (Try.prog.info? 98).map (fun i => (i.zero, i.size, i.bytes)) = some (some (.agg #[(.int .i64 0), (.int .i64 0)]), 2, 16) := by kernel_rfl

/-- The queue: a row of pages that wait; it may begin inside its block. -/
abbrev Qu (w : World) (base : Nat) (v : Value) (q : List S98) : Prop := QRow w base 98 2 v q.length (q.flatMap e98)

theorem run_clear1 (w : World) (ty : TypeId) (b o c : Nat) (h0 : (w.cell? ⟨b, o, none⟩).isSome = true) (h1 : (w.cell? ⟨b, o + 1, none⟩).isSome = true) (f0 : w.frozen? ⟨b, o, none⟩ = false) (f1 : w.frozen? ⟨b, o + 1, none⟩ = false) :
    (Builtin.clear_ #[95] ty #[.slice (some ⟨b, o, none⟩) 1 c]).run Try.prog w = .ok (.tuple #[]) (w.setCells b o [.int .i64 0, .int .i64 0]) := by
  have hz : (zeroValue 98).run Try.prog w = .ok (.agg #[.int .i64 0, .int .i64 0]) w := by kernel_rfl
  have hst := run_storeCells_cells (P := Try.prog) b o [.int .i64 0, .int .i64 0] 0 w (fun j hj => by
    match j, hj with
    | 0, _ => simpa using h0
    | 1, _ => simpa using h1) (fun j hj => by
    match j, hj with
    | 0, _ => simpa using f0
    | 1, _ => simpa using f1) (fun u hu => by simp at hu; subst hu; rfl)
  simp only [Nat.add_zero] at hst
  have hzc : (Builtin.zeroCells (Value.agg #[.int .i64 0, .int .i64 0]).cells 1).toList = [.int .i64 0, .int .i64 0] := by unfold Builtin.zeroCells; simp [Value.cells]; rfl
  simp [Builtin.clear_, run_underlying Try.underlying95, hz, hzc, hst, Result.andThen]

theorem del_list {C C1 C2 F N Z : List Value} {o k2 m2 n2 : Nat} (hF : (C.drop o).take n2 = F) (hk : k2 ≤ n2) (h1 : C1 = C.take (o + k2) ++ N ++ C.drop (o + k2 + N.length)) (hN : N.length = m2) (hl : o + k2 + m2 ≤ C.length)
    (h2 : C2 = C1.take (o + (k2 + m2)) ++ Z ++ C1.drop (o + (k2 + m2) + Z.length)) : (C2.drop o).take (k2 + m2) = F.take k2 ++ N := by
  have e1 : C1.take (o + (k2 + m2)) = C.take (o + k2) ++ N := by
    rw [h1]
    exact List.take_left' (by simp [List.length_take, hN]; omega)
  have e2 : C2.take (o + (k2 + m2)) = C.take (o + k2) ++ N := by
    rw [h2, e1, List.append_assoc]
    exact List.take_left' (by simp [List.length_take, hN]; omega)
  have e3 : (C2.drop o).take (k2 + m2) = (C2.take (o + (k2 + m2))).drop o := by
    rw [List.drop_take]
    congr 1
    omega
  rw [e3, e2, List.drop_append_of_le_length (by rw [List.length_take]; omega), List.drop_take]
  congr 1
  rw [← hF, List.take_take]
  congr 1
  omega

theorem flat_take (k : Nat) : ∀ q : List S98, (q.take k).flatMap e98 = (q.flatMap e98).take (k * 2) := by
  induction k with
  | zero => intro q; simp
  | succ k ih =>
    intro q
    cases q with
    | nil => simp
    | cons x q =>
      rw [List.take_succ_cons, List.flatMap_cons, List.flatMap_cons, ih]
      simp [e98, Nat.add_mul]
theorem flat_drop (k : Nat) : ∀ q : List S98, (q.drop k).flatMap e98 = (q.flatMap e98).drop (k * 2) := by
  induction k with
  | zero => intro q; simp
  | succ k ih =>
    intro q
    cases q with
    | nil => simp
    | cons x q =>
      rw [List.drop_succ_cons, List.flatMap_cons, ih]
      simp [e98, Nat.add_mul]
theorem flat_erase (q : List S98) (k : Nat) : (q.eraseIdx k).flatMap e98 = (q.flatMap e98).take (k * 2) ++ (q.flatMap e98).drop ((k + 1) * 2) := by
  rw [List.eraseIdx_eq_take_drop_succ, List.flatMap_append, flat_take, flat_drop]

set_option maxRecDepth 100000 in
set_option maxHeartbeats 1000000 in
theorem delete_any (base k : Nat) (v : Value) (q : List S98) (w : World) (hq : Qu w base v q) (hk : k < q.length) :
    Calls Try.prog 50 #[v, .int .i64 k, .int .i64 ((k : Int) + 1)] w fun e w' => ∃ v', e = .returned v' ∧ Qu w' base v' (q.eraseIdx k) ∧ v'.ownBlock = v.ownBlock ∧ w.grownBy w' v.ownBlock := by
  obtain ⟨hl, hv⟩ := hq
  rcases hv with ⟨h0, _⟩ | ⟨g, off, cap, cur, rfl, hb, hg, hn, hm, hs, hx⟩
  · omega
  · have hN : ∀ j, j < q.length * 2 → cur[off * 2 + j]? = (q.flatMap e98)[j]? := fun j hj => by
      rw [← hx, List.getElem?_take_of_lt hj, List.getElem?_drop, Array.getElem?_toList]
    have hcell : ∀ j u, (q.flatMap e98)[j]? = some u → w.cell? ⟨g, off * 2 + j, none⟩ = some u := fun j u hj => by
      have hj2 : j < q.length * 2 := by rw [← hl]; exact (List.getElem?_eq_some_iff.1 hj).1
      rw [blk_cell hg, hN j hj2, hj]
    have hfro : ∀ j, w.frozen? ⟨g, j, none⟩ = false := fun j => blk_frozen hg j
    have hsome : ∀ j, j < (off + cap) * 2 → (w.cell? ⟨g, j, none⟩).isSome = true := fun j hj => by
      rw [blk_cell hg, Array.getElem?_eq_getElem (by rw [hs]; exact hj)]
      rfl
    have hnews : ∀ j u, ((q.flatMap e98).drop ((k + 1) * 2))[j]? = some u → w.cell? ⟨g, off * 2 + (k + 1) * 2 + j, none⟩ = some u := fun j u hj => by
      rw [List.getElem?_drop] at hj
      rw [Nat.add_assoc]
      exact hcell _ u hj
    have hnl : ((q.flatMap e98).drop ((k + 1) * 2)).length = (q.length - (k + 1)) * 2 := by rw [List.length_drop, hl]; omega
    have h1c : ∀ u ∈ (q.flatMap e98).drop ((k + 1) * 2), u.oneCell' = true := fun u hu => by
      have := List.mem_of_mem_drop hu
      rw [List.mem_flatMap] at this
      obtain ⟨x, _, hx⟩ := this
      simp [e98] at hx
      rcases hx with rfl | rfl <;> rfl
    have HX := Aside0.mk hx
    have HL := Aside0.mk hl
    have HG := Aside0.mk hg
    have HS := Aside0.mk hs
    have HC := Aside0.mk hcell
    have HF := Aside0.mk hfro
    have HM := Aside0.mk hsome
    have HNW := Aside0.mk hnews
    have HNL := Aside0.mk hnl
    have H1C := Aside0.mk h1c
    clear hx hl hg hs hN hcell hfro hsome hnews hnl h1c
    unfold maxLen at hm
    have hn1 : q.length ≤ 9223372036854775807 := by omega
    have hc1 : cap ≤ 9223372036854775807 := by omega
    generalize hnws : (q.flatMap e98).drop ((k + 1) * 2) = news at *
    have HNS := Aside0.mk hnws
    clear hnws
    obtain ⟨i0, hi0, hz0, hz1, hz2⟩ := info_parts info98
    have hkz : ((k : Int) == (k : Int) + 1) = false := by simp; omega
    have hk2 : k ≤ cap := by omega
    have hk3 : k + 1 ≤ q.length := by omega
    have hk4 : k + 1 ≤ cap := by omega
    have hk5 : k ≤ q.length := by omega
    have hk6 : (0 : Int) ≤ (k : Int) + 1 := by omega
    have hk7 : (k : Int) + 1 ≤ (q.length : Int) := by omega
    generalize hqn : q.length = n at *
    have HQ := Aside0.mk hqn
    clear hqn
    by_cases hck : cap = k + 1
    · subst hck
      obtain rfl : n = k + 1 := by omega
      have hnw : news = [] := List.eq_nil_of_length_eq_zero (by rw [HNL.out]; omega)
      subst hnw
      have hA3 : ¬ k + 1 = k := by omega
      have hA4 : k + 1 - k = 1 := by omega
      have hk8 : (k : Int) ≤ (k : Int) + 1 := by omega
      go_enter Try.func50, Try.ntmps50
      go_wp2
      go_region_law (refine step_append_room (by rfl) _ _ _ (by rfl) 98 i0 2 Try.underlying95 hi0 hz1 g (off * 2) k (k + 1) ?hs ⟨g, off * 2, none⟩ 0 0 [] ?hx rfl ?hn ?h1 ?hr ?hp ?_; (case hs => go_simp); (case hx => go_simp); (case hn => exact fun j u hj => by simp at hj); (case h1 => exact fun u hu => by simp at hu); (case hr => omega); (case hp => exact fun j hj => by simp at hj))
      have hcl : ∀ ty, (Builtin.clear_ #[95] ty #[.slice (some ⟨g, off * 2 + k * 2, none⟩) 1 1]).run Try.prog (w.drew.setCells g (off * 2 + k * 2) []) = .ok (.tuple #[]) (w.drew.setCells g (off * 2 + k * 2) [.int .i64 0, .int .i64 0]) := fun ty =>
        run_clear1 w.drew ty g (off * 2 + k * 2) 1 (HM.out _ (by omega)) (HM.out _ (by omega)) (HF.out _) (HF.out _)
      go_wp2
      go_ret
      have hq := HQ.out
      obtain ⟨cur2, hc2, hs2, hl2⟩ := setCells_row (g := g) (e := 98) [.int .i64 0, .int .i64 0] (off * 2 + k * 2) w.drew cur HG.out (by rw [HS.out]; simp; omega)
      have hel : (q.eraseIdx k).length = k := by rw [List.length_eraseIdx, hq, if_pos hk]; omega
      refine ⟨.slice (some ⟨g, off * 2, none⟩) k (k + 1), rfl, ?_, rfl, ?_⟩
      · unfold Qu
        rw [hel]
        have hfe := flat_erase q k
        rw [HNS.out, List.append_nil] at hfe
        have hlen : ((q.eraseIdx k).flatMap e98).length = k * 2 := by rw [hfe, List.length_take, HL.out]; omega
        refine ⟨hlen, .inr ⟨g, off, k + 1, cur2, rfl, hb, hc2, by omega, by unfold maxLen; omega, by rw [hs2, HS.out], ?_⟩⟩
        rw [hfe]
        have h2 : cur2.toList = cur.toList.take (off * 2 + (k * 2 + 0)) ++ [.int .i64 0, .int .i64 0] ++ cur.toList.drop (off * 2 + (k * 2 + 0) + 2) := by rw [hl2]; rfl
        have h1 : cur.toList = cur.toList.take (off * 2 + k * 2) ++ [] ++ cur.toList.drop (off * 2 + k * 2 + 0) := by simp
        have h3 := del_list (m2 := 0) HX.out (by omega) h1 rfl (by rw [Array.length_toList, HS.out]; omega) h2
        simpa using h3
      · refine ⟨?_, ?_, ?_, ?_, ?_⟩
        · rw [(setCells_same g _ _ _).1]; rfl
        · rw [(setCells_same g _ _ _).2.1]; rfl
        · rw [(setCells_same g _ _ _).2.2.1]; rfl
        · rw [(setCells_same g _ _ _).2.2.2]; exact Nat.le_refl _
        · intro j hj hne
          have hjg : j ≠ g := fun e => hne (by rw [e]; rfl)
          rw [setCells_far _ _ j hjg]
          rfl
    · obtain ⟨m, rfl⟩ : ∃ m, n = k + 1 + m := ⟨n - (k + 1), by omega⟩
      have hnm : k + 1 + m - (k + 1) = m := by omega
      rw [hnm] at HNL
      have hA1 : k + m ≤ cap := by omega
      have hk8 : (k : Int) + 1 ≤ (k : Int) + 1 + (m : Int) := by omega
      have hk9 : (k : Int) + (m : Int) ≤ (k : Int) + 1 + (m : Int) := by omega
      have hk0 : (0 : Int) ≤ (k : Int) + (m : Int) := by omega
      have hA2 : k + m ≤ k + 1 + m := by omega
      have hA3 : ¬ cap = k + m := by omega
      have hA4 : k + 1 + m - (k + m) = 1 := by omega
      go_enter Try.func50, Try.ntmps50
      go_wp2
      go_region_law (refine step_append_room (by rfl) _ _ _ (by rfl) 98 i0 2 Try.underlying95 hi0 hz1 g (off * 2) k cap ?hs ⟨g, off * 2 + (k + 1) * 2, none⟩ m (cap - (k + 1)) news ?hx HNL.out ?hn H1C.out ?hr ?hp ?_; (case hs => go_simp); (case hx => go_simp); (case hn => exact fun j u hj => by rw [Addr.add_lit]; exact HNW.out j u hj); (case hr => omega); (case hp => exact fun j hj => ⟨HM.out _ (by rw [HNL.out] at hj; omega), HF.out _⟩))
      have hcl : ∀ ty, (Builtin.clear_ #[95] ty #[.slice (some ⟨g, off * 2 + (k + m) * 2, none⟩) 1 (cap - (k + m))]).run Try.prog (w.drew.setCells g (off * 2 + k * 2) news) = .ok (.tuple #[]) ((w.drew.setCells g (off * 2 + k * 2) news).setCells g (off * 2 + (k + m) * 2) [.int .i64 0, .int .i64 0]) := fun ty => by
        obtain ⟨cur1, hc1, hs1, hl1⟩ := setCells_row (g := g) (e := 98) news (off * 2 + k * 2) w.drew cur HG.out (by rw [HNL.out, HS.out]; omega)
        have hss : ∀ j, j < (off + cap) * 2 → ((w.drew.setCells g (off * 2 + k * 2) news).cell? ⟨g, j, none⟩).isSome = true := fun j hj => by
          rw [blk_cell hc1, Array.getElem?_eq_getElem (by rw [hs1, HS.out]; exact hj)]
          rfl
        exact run_clear1 _ ty g (off * 2 + (k + m) * 2) _ (hss _ (by omega)) (hss _ (by omega)) (blk_frozen hc1 _) (blk_frozen hc1 _)
      go_wp2
      go_ret
      have hq := HQ.out
      obtain ⟨cur1, hc1, hs1, hl1⟩ := setCells_row (g := g) (e := 98) news (off * 2 + k * 2) w.drew cur HG.out (by rw [HNL.out, HS.out]; omega)
      obtain ⟨cur2, hc2, hs2, hl2⟩ := setCells_row (g := g) (e := 98) [.int .i64 0, .int .i64 0] (off * 2 + (k + m) * 2) _ cur1 hc1 (by rw [hs1, HS.out]; simp; omega)
      have hel : (q.eraseIdx k).length = k + m := by rw [List.length_eraseIdx, hq, if_pos hk]; omega
      refine ⟨.slice (some ⟨g, off * 2, none⟩) (k + m) cap, rfl, ?_, rfl, ?_⟩
      · unfold Qu
        rw [hel]
        have hfe := flat_erase q k
        rw [HNS.out] at hfe
        have hlen : ((q.eraseIdx k).flatMap e98).length = (k + m) * 2 := by rw [hfe, List.length_append, List.length_take, HL.out, HNL.out]; omega
        refine ⟨hlen, .inr ⟨g, off, cap, cur2, rfl, hb, hc2, hA1, by unfold maxLen; omega, by rw [hs2, hs1, HS.out], ?_⟩⟩
        rw [hfe, Nat.add_mul]
        have h2 : cur2.toList = cur1.toList.take (off * 2 + (k * 2 + m * 2)) ++ [.int .i64 0, .int .i64 0] ++ cur1.toList.drop (off * 2 + (k * 2 + m * 2) + 2) := by rw [hl2, Nat.add_mul]; rfl
        exact del_list HX.out (by omega) hl1 HNL.out (by rw [Array.length_toList, HS.out]; omega) h2
      · refine ⟨?_, ?_, ?_, ?_, ?_⟩
        · rw [(setCells_same g _ _ _).1, (setCells_same g _ _ _).1]; rfl
        · rw [(setCells_same g _ _ _).2.1, (setCells_same g _ _ _).2.1]; rfl
        · rw [(setCells_same g _ _ _).2.2.1, (setCells_same g _ _ _).2.2.1]; rfl
        · rw [(setCells_same g _ _ _).2.2.2, (setCells_same g _ _ _).2.2.2]; exact Nat.le_refl _
        · intro j hj hne
          have hjg : j ≠ g := fun e => hne (by rw [e]; rfl)
          rw [setCells_far _ _ j hjg, setCells_far _ _ j hjg]
          rfl
end Go.Proofs.Ytdkfmbammdmohaa.PPolicyCosts

namespace Go.Proofs.Ytdkfmbammdmohaa.PPolicyCosts
open Go.RowKit Go.Proofs.YtdkfmbammdmohaaW.PrintWords Go.Proofs.YtdkfmbammdmohaaW.PrintLast Go.Proofs.YtdkfmbammdmohaaW.PrintMore
open Go.Proofs.YtdkfmbammdmohaaM Go.Proofs.YtdkfmbammdmohaaS
attribute [local go_sem] max2_int min2_int max_two min_two max_three min_three max_four min_four
set_option linter.unusedVariables false
set_option linter.unusedSimpArgs false

theorem samePage_any (B : Nat) (x : S98) (page : Int) (W : World) (hc : W.cell? ⟨B, 2, none⟩ = some (.int .i64 page)) :
    Calls Try.prog 49 #[.agg #[.int .i64 x.f0, .int .i64 x.f1], .pointer (some ⟨B, 0, none⟩)] W fun e w' => e = .returned (.bool (x.f1 == page)) ∧ Below W.heap.size W w' := by
  obtain ⟨s, p⟩ := x
  have hlt : B < W.heap.size := World.block_lt_of_cell? W _ hc
  go_enter Try.func49, Try.ntmps49
  go_wp2
  go_ret
  exact ⟨rfl, by repeat (first | exact Below.refl _ _ | apply below_drew | apply below_alloc)⟩

theorem idxw_empty (A : Option Addr) (c : Nat) (fv : Value) (w : World) : Calls Try.prog 48 #[.slice A 0 c, fv] w fun e w' => e = .returned (.int .i64 (-1)) ∧ w' = w := by
  go_enter Try.func48, Try.ntmps48
  go_wp2
  refine wp_loop_rounds 1 ?_; rw [rounds_succ]
  go_wp2
  go_ret
  exact ⟨rfl, rfl⟩

/-- the index of the first one of a page; -1: there is none -/
def idxW (q : List S98) (page : Int) : Int := match q.findIdx? (fun y => y.f1 == page) with | some k => k | none => -1

theorem idxBy_is (q : List S98) (page : Int) : Lib.idxBy (fun _ y => y.f1 == page) q default = idxW q page := by
  unfold idxW
  cases h : q.findIdx? (fun y => y.f1 == page) with
  | none =>
    have h1 := List.findIdx?_eq_none_iff.1 h
    have := Lib.idxBy_miss (fun _ y => y.f1 == page) q q.length (default : S98) (fun j hj => by
      rw [getElem!_pos q j hj]
      exact h1 _ (List.getElem_mem hj))
    rw [List.take_length] at this
    exact this
  | some k =>
    obtain ⟨hk, hp, hm⟩ := List.findIdx?_eq_some_iff_getElem.1 h
    have := Lib.idxBy_hit (fun _ y => y.f1 == page) q q.length k (default : S98) hk (Nat.le_refl _) (by rw [getElem!_pos q k hk]; exact hp) (fun j hj => by
      rw [getElem!_pos q j (by omega)]
      simpa using hm j hj)
    rw [List.take_length] at this
    exact this

theorem idx_any (base B : Nat) (v : Value) (q : List S98) (a page : Int) (b : Bool) (w : World) (hq : Qu w base v q) (hB : w.heap[B]? = some (.cells #[.int .i64 a, .bool b, .int .i64 page] 90 (0, 0))) :
    Calls Try.prog 48 #[v, .func (.func 49) #[] #[.pointer (some ⟨B, 0, none⟩)]] w fun e w' => e = .returned (.int .i64 (idxW q page)) ∧ Below w.heap.size w w' := by
  obtain ⟨A, c, rfl, hcl⟩ := q_slice hq
  rcases Nat.eq_zero_or_pos q.length with h0 | h0
  · obtain rfl : q = [] := List.eq_nil_of_length_eq_zero h0
    refine (idxw_empty A c _ w).mono ?_
    rintro e w' ⟨rfl, rfl⟩
    exact ⟨rfl, Below.refl _ _⟩
  · have hbig := q_max hq
    obtain ⟨hl, hv⟩ := hq
    rcases hv with ⟨h1, _⟩ | ⟨g, off, cap, cur, he, hb, hg, hn, hm, hs, hx⟩
    · omega
    · injection he with e1 e2 e3
      subst e1; subst e3
      have hc : ∀ j, j < q.length → ∀ i v, (e98 q[j]!)[i]? = some v → w.cell? ⟨g, off * 2 + j * 2 + i, none⟩ = some v := by
        intro j hj i v hv
        have hi : i < 2 := (List.getElem?_eq_some_iff.1 hv).1
        have hf := YtdkfmbammdmohaaS.flatMap_at e98 2 (fun _ => rfl) q (j * 2 + i) (by omega)
        rw [show (j * 2 + i) / 2 = j from by omega, show (j * 2 + i) % 2 = i from by omega, hv, ← hx, List.getElem?_take_of_lt (by omega), List.getElem?_drop, Array.getElem?_toList] at hf
        rw [blk_cell hg, Nat.add_assoc]
        exact hf
      have eg : ∀ args w, (callFunc 49 args).run Try.prog w = .ok (.enter 49 args) w := enters_of Try.func49 (by kernel_rfl) rfl
      have hp : PredBelow Try.prog 49 #[.pointer (some ⟨B, 0, none⟩)] (fun x : S98 => .agg (e98 x).toArray) (fun y => y.f1 == page) w := fun W x hbl =>
        (samePage_any B x page W ((blk_cell (blk_below hB hbl) 2).trans rfl)).mono fun e w' ⟨he, hb'⟩ => ⟨he, below_step hbl hb'⟩
      have := AnyQ.slices_IndexFunc Try.idxWait 2 Try.isAgg98 Try.sizeOf98 e98 (fun _ => rfl) (fun y => y.f1 == page) 49 #[.pointer (some ⟨B, 0, none⟩)] eg g (off * 2) q.length c q w hp (Nat.le_refl _) hbig (blk_lt hg) hc
      rw [List.take_length, idxBy_is] at this
      exact this
end Go.Proofs.Ytdkfmbammdmohaa.PPolicyCosts

namespace Go.Proofs.Ytdkfmbammdmohaa.PPolicyCosts
open Go.RowKit Go.Proofs.YtdkfmbammdmohaaW.PrintWords Go.Proofs.YtdkfmbammdmohaaW.PrintLast Go.Proofs.YtdkfmbammdmohaaW.PrintMore
open Go.Proofs.YtdkfmbammdmohaaM Go.Proofs.YtdkfmbammdmohaaS
set_option linter.unusedVariables false
set_option linter.unusedSimpArgs false

def z90 : S90 := ⟨0, false, 0⟩
def k90 : Kd S90 := Kd.iso (Kd.pair (Kd.int .i64) (Kd.pair Kd.bool (Kd.int .i64))) (fun x : S90 => (x.f0, x.f1, x.f2))
theorem k90_open {w : World} {x : S90} {cs : List Value} (h : k90.K w x cs) : cs = [.int .i64 x.f0, .bool x.f1, .int .i64 x.f2] := by
  obtain ⟨_, _, rfl, rfl, ⟨_, _, rfl, rfl, rfl⟩⟩ := h
  exact rfl
theorem k90_mk (w : World) (x : S90) : k90.K w x [.int .i64 x.f0, .bool x.f1, .int .i64 x.f2] := ⟨[.int .i64 x.f0], [.bool x.f1, .int .i64 x.f2], rfl, rfl, ⟨[.bool x.f1], [.int .i64 x.f2], rfl, rfl, rfl⟩⟩
def rd_T90 (xs : List S90) (i : Int) : S90 := xs.getD i.toNat z90
theorem at_T90 {w : World} {A : Option Addr} {n : Nat} {xs : List S90} (h : Kd.C k90 w A n xs) (i : Int) (h0 : 0 ≤ i) (h1 : i < n) : ∃ ad, A = some ad ∧ w.cell? (ad.add (i.toNat * 3)) = some (.int .i64 (rd_T90 xs i).f0) ∧ w.cell? ⟨(ad.add (i.toNat * 3)).block, (ad.add (i.toNat * 3)).off + 1, none⟩ = some (.bool (rd_T90 xs i).f1) ∧ w.cell? ⟨(ad.add (i.toNat * 3)).block, (ad.add (i.toNat * 3)).off + 2, none⟩ = some (.int .i64 (rd_T90 xs i).f2) := by
  obtain ⟨ad, c, e, _, hK, hc0⟩ := Kd.C_get h z90 i h0 h1
  have hc : ∀ j u, c[j]? = some u → w.cell? (ad.add (i.toNat * 3 + j)) = some u := hc0
  obtain rfl := k90_open hK
  exact ⟨ad, e, hc 0 _ rfl, by rw [← add_field _ _ 1 (by omega)]; exact hc 1 _ rfl, by rw [← add_field _ _ 2 (by omega)]; exact hc 2 _ rfl⟩
def z98 : S98 := ⟨0, 0⟩
def k98 : Kd S98 := Kd.iso (Kd.pair (Kd.int .i64) (Kd.int .i64)) (fun x : S98 => (x.f0, x.f1))
theorem k98_open {w : World} {x : S98} {cs : List Value} (h : k98.K w x cs) : cs = [.int .i64 x.f0, .int .i64 x.f1] := by
  obtain ⟨_, _, rfl, rfl, rfl⟩ := h
  exact rfl
theorem k98_mk (w : World) (x : S98) : k98.K w x [.int .i64 x.f0, .int .i64 x.f1] := ⟨[.int .i64 x.f0], [.int .i64 x.f1], rfl, rfl, rfl⟩
def rd_T98 (xs : List S98) (i : Int) : S98 := xs.getD i.toNat z98
theorem at_T98 {w : World} {A : Option Addr} {n : Nat} {xs : List S98} (h : Kd.C k98 w A n xs) (i : Int) (h0 : 0 ≤ i) (h1 : i < n) : ∃ ad, A = some ad ∧ w.cell? (ad.add (i.toNat * 2)) = some (.int .i64 (rd_T98 xs i).f0) ∧ w.cell? ⟨(ad.add (i.toNat * 2)).block, (ad.add (i.toNat * 2)).off + 1, none⟩ = some (.int .i64 (rd_T98 xs i).f1) := by
  obtain ⟨ad, c, e, _, hK, hc0⟩ := Kd.C_get h z98 i h0 h1
  have hc : ∀ j u, c[j]? = some u → w.cell? (ad.add (i.toNat * 2 + j)) = some u := hc0
  obtain rfl := k98_open hK
  exact ⟨ad, e, hc 0 _ rfl, by rw [← add_field _ _ 1 (by omega)]; exact hc 1 _ rfl⟩

theorem reps_flatF {α : Type} {R : α → List Value → Prop} {k : Nat} (enc : α → List Value) (hR : ∀ x, R x (enc x)) (hk : ∀ x, (enc x).length = k) : ∀ (l pre : List α), Reps R k pre (pre.flatMap enc) → Reps R k (pre ++ l) ((pre ++ l).flatMap enc)
  | [], pre, h => by simpa using h
  | x :: l, pre, h => by
    have h2 := Reps.snoc h (hR x) (hk x)
    have h3 := reps_flatF enc hR hk l (pre ++ [x]) (by simpa using h2)
    simpa using h3
theorem own_C90 {w : World} {base : Nat} {v : Value} {ss : List S90} (h : w.ownsRow base 90 3 v ss.length (ss.flatMap e90)) : ∃ A c, v = .slice A ss.length c ∧ ss.length ≤ c ∧ Kd.C k90 w A ss.length ss := by
  have hr : Reps (k90.K w) 3 ss (ss.flatMap e90) := by
    have := reps_flatF (R := k90.K w) (k := 3) e90 (fun x => k90_mk w x) (fun _ => rfl) ss [] (Reps.none _ _)
    simpa using this
  obtain ⟨A, c, rfl, hrow⟩ := own_reads_row h hr rfl
  exact ⟨A, c, rfl, own_le h, hrow⟩
/-- The queue, read. -/
theorem qu_C98 {w : World} {base : Nat} {A : Option Addr} {n c : Nat} {q : List S98} (h : Qu w base (.slice A n c) q) : n = q.length ∧ n ≤ c ∧ Kd.C k98 w A q.length q := by
  obtain ⟨A', c', he, hl⟩ := q_slice h
  injection he with h1 h2 h3
  subst h1; subst h2; subst h3
  have hr : Reps (k98.K w) 2 q (q.flatMap e98) := by
    have := reps_flatF (R := k98.K w) (k := 2) e98 (fun x => k98_mk w x) (fun _ => rfl) q [] (Reps.none _ _)
    simpa using this
  refine ⟨rfl, hl, rfl, q_max h, fun hp => ?_⟩
  obtain ⟨ad, ha, hc⟩ := q_cells h hp
  refine ⟨ad, ha, fun j p hj => ⟨((q.flatMap e98).drop (j * 2)).take 2, ?_, hr.2 j p hj, fun i u hu => ?_⟩⟩
  · have hjl : j < q.length := (List.getElem?_eq_some_iff.1 hj).1
    have := hr.1
    show List.length _ = 2
    rw [List.length_take, List.length_drop, this]
    omega
  · have hi : i < 2 := by
      have := (List.getElem?_eq_some_iff.1 hu).1
      rw [List.length_take] at this
      omega
    rw [List.getElem?_take_of_lt hi, List.getElem?_drop] at hu
    exact hc _ u hu

/-- The steps of a trace. -/
def stepsOf (l : List S73) : List S90 := l.flatMap fun u => [⟨u.f1, true, u.f0⟩, ⟨u.f2, false, u.f0⟩]
theorem stepsOf_snoc (l : List S73) (u : S73) : stepsOf (l ++ [u]) = stepsOf l ++ [⟨u.f1, true, u.f0⟩, ⟨u.f2, false, u.f0⟩] := by simp [stepsOf]
theorem stepsOf_len (l : List S73) : (stepsOf l).length = l.length * 2 := by
  unfold stepsOf
  exact YtdkfmbammdmohaaS.flatMap_len (α := S73) (fun u => ([] : List Value)) 0 (fun _ => rfl) [] |> fun _ => by
    induction l with
    | nil => rfl
    | cons x l ih => simp [List.flatMap_cons, ih, Nat.add_mul]

theorem lt_cmpStep (x y : S90) : ltOf cmpStep x y = (decide (x.f0 < y.f0) || (decide (x.f0 = y.f0) && ((x.f1 && !y.f1) || (decide (x.f1 = y.f1) && decide (x.f2 < y.f2))))) := by
  unfold ltOf cmpStep cmpI
  by_cases h1 : x.f0 < y.f0
  · simp [h1]
  · by_cases h2 : y.f0 < x.f0
    · have : ¬ x.f0 = y.f0 := by omega
      simp [h1, h2, this]
    · have h3 : x.f0 = y.f0 := by omega
      cases hx : x.f1 <;> cases hy : y.f1 <;> simp [h3]
      all_goals
        by_cases h4 : x.f2 < y.f2
        · simp [h4]
        · by_cases h5 : y.f2 < x.f2
          · simp [h4, h5]
          · simp [h4, h5]

theorem swoStep : Sort.SWO (ltOf cmpStep) where
  irrefl x := by rw [lt_cmpStep]; cases x.f1 <;> simp
  trans x y z h1 h2 := by
    rw [lt_cmpStep] at *
    cases hx : x.f1 <;> cases hy : y.f1 <;> cases hz : z.f1 <;> simp [hx, hy, hz] at * <;> omega
  ntrans x y z h1 h2 := by
    rw [lt_cmpStep] at *
    cases hx : x.f1 <;> cases hy : y.f1 <;> cases hz : z.f1 <;> simp [hx, hy, hz] at * <;> omega

theorem sortStep_own (base : Nat) (v : Value) (d : List S90) (w : World) (ho : w.ownsRow base 90 3 v d.length (d.flatMap e90)) (hsz : d.length < 4611686018427387904) :
    Calls Try.prog 44 #[v, .func (.func 45) #[] #[]] w fun en w' => en = .returned (.tuple #[]) ∧ ∃ d' : List S90, d'.Perm d ∧ d'.Pairwise (fun x y => ltOf cmpStep y x = false) ∧ w'.ownsRow base 90 3 v d'.length (d'.flatMap e90) ∧ w.grownBy w' v.ownBlock := by
  have eg : ∀ args w, (callFunc 45 args).run Try.prog w = .ok (.enter 45 args) w := enters_of Try.func45 (by kernel_rfl) rfl
  exact sortFunc_own Try.sortStep 3 90 Try.isAgg90 Try.sizeOf90 e90 (fun _ => rfl) (fun x v hv => by simp [e90] at hv; rcases hv with rfl | rfl | rfl <;> rfl) cmpStep swoStep 45 eg (fun x y W => cmpStep_any x y W) base v d w ho hsz

/-- Pages are given back from the front of the queue, as long as there are too many. -/
def evict (hold a limit : Int) : Int → List S98 → Int × List S98
  | n, [] => (n, [])
  | n, x :: q => if limit < ((x :: q).length : Int) then evict hold a limit (wrap64 (n + wrap64 (wrap64 (a - x.f0) * hold))) q else (n, x :: q)
/-- One step. -/
def stepQ (hold win limit : Int) (lastT : Bool) (s : S90) (st : Int × List S98) : Int × List S98 :=
  if s.f1 = true then
    (if idxW st.2 s.f2 < 0 then (wrap64 (st.1 + win), st.2) else (wrap64 (st.1 + wrap64 (wrap64 (s.f0 - (rd_T98 st.2 (idxW st.2 s.f2)).f0) * hold)), st.2.eraseIdx (idxW st.2 s.f2).toNat))
  else if lastT = true then evict hold s.f0 limit st.1 (st.2 ++ [⟨s.f0, s.f2⟩]) else (st.1, st.2 ++ [⟨s.f0, s.f2⟩])
/-- Is a step the last one of its tick? -/
def lastAt (ss : List S90) (i : Nat) : Bool := decide (i + 1 = ss.length) || decide ((rd_T90 ss ((i : Int) + 1)).f0 > (rd_T90 ss (i : Int)).f0)
/-- The cost so far, and the queue, behind i steps. -/
def runQ (hold win limit : Int) (ss : List S90) : Nat → Int × List S98
  | 0 => (0, [])
  | i + 1 => stepQ hold win limit (lastAt ss i) (rd_T90 ss (i : Int)) (runQ hold win limit ss i)
/-- What is held in the end. -/
def tailQ (hold e : Int) (n : Int) (q : List S98) : Int := q.foldl (fun n x => wrap64 (n + wrap64 (wrap64 (e - x.f0) * hold))) n
theorem tailQ_snoc (hold e n : Int) (q : List S98) (x : S98) : tailQ hold e n (q ++ [x]) = wrap64 (tailQ hold e n q + wrap64 (wrap64 (e - x.f0) * hold)) := by simp [tailQ, List.foldl_append]
def mostQ (hold win limit e : Int) (ss : List S90) : Int := tailQ hold e (runQ hold win limit ss ss.length).1 (runQ hold win limit ss ss.length).2
end Go.Proofs.Ytdkfmbammdmohaa.PPolicyCosts

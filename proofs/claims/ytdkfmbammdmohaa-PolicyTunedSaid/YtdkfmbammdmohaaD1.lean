/- slices.Delete of one page that waits. -/
import Derived.Test.YtdkfmbammdmohaaB1
import Derived.Outline
import Derived.Deep.RegionLaw
import Derived.Deep.DeepMust
namespace Go.Proofs.Ytdkfmbammdmohaa.PPolicyCosts
open Go.RowKit Go.Proofs.YtdkfmbammdmohaaW.PrintWords Go.Proofs.YtdkfmbammdmohaaW.PrintLast Go.Proofs.YtdkfmbammdmohaaW.PrintMore
open Go.Proofs.YtdkfmbammdmohaaM Go.Proofs.YtdkfmbammdmohaaS
attribute [local go_sem] max2_int min2_int max_two min_two max_three min_three max_four min_four
set_option linter.unusedVariables false
set_option linter.unusedSimpArgs false

theorem info98 : (Try.prog.info? 98).map (fun i => (i.zero, i.size, i.bytes)) = some (some (.agg #[(.int .i64 0), (.int .i64 0)]), 2, 16) := by kernel_rfl

/-- The queue: a row of pages that wait; it may begin inside its block. -/
abbrev Qu (w : World) (base : Nat) (v : Value) (q : List S98) : Prop := QRow w base 98 2 v q.length (q.flatMap e98)

theorem run_clear1 (w : World) (ty : TypeId) (b o c : Nat) (h0 : (w.cell? ⟨b, o, none⟩).isSome = true) (h1 : (w.cell? ⟨b, o + 1, none⟩).isSome = true) (f0 : w.frozen? ⟨b, o, none⟩ = false) (f1 : w.frozen? ⟨b, o + 1, none⟩ = false) :
    (Builtin.clear_ #[95] ty #[.slice (some ⟨b, o, none⟩) 1 c]).run Try.prog w = .ok (.tuple #[]) (w.setCells b o [.int .i64 0, .int .i64 0]) := by
  have hz : (zeroValue 98).run Try.prog w = .ok (.agg #[.int .i64 0, .int .i64 0]) w := by kernel_rfl
  have hst := run_storeCells_cells (P := Try.prog) b o [.int .i64 0, .int .i64 0] 0 w (fun j hj => by
    match j, hj with
    | 0, _ => simpa using h0
    | 1, _ => simpa using h1) (fun j hj => by
    match j, hj with
    | 0, _ => simpa using f0
    | 1, _ => simpa using f1) (fun u hu => by simp at hu; subst hu; rfl)
  simp only [Nat.add_zero] at hst
  have hzc : (Builtin.zeroCells (Value.agg #[.int .i64 0, .int .i64 0]).cells 1).toList = [.int .i64 0, .int .i64 0] := by unfold Builtin.zeroCells; simp [Value.cells]; rfl
  simp [Builtin.clear_, run_underlying Try.underlying95, hz, hzc, hst, Result.andThen]

theorem del_list {C C1 C2 F N Z : List Value} {o k2 m2 n2 : Nat} (hF : (C.drop o).take n2 = F) (hk : k2 ≤ n2) (h1 : C1 = C.take (o + k2) ++ N ++ C.drop (o + k2 + N.length)) (hN : N.length = m2) (hl : o + k2 + m2 ≤ C.length)
    (h2 : C2 = C1.take (o + (k2 + m2)) ++ Z ++ C1.drop (o + (k2 + m2) + Z.length)) : (C2.drop o).take (k2 + m2) = F.take k2 ++ N := by
  have e1 : C1.take (o + (k2 + m2)) = C.take (o + k2) ++ N := by
    rw [h1]
    exact List.take_left' (by simp [List.length_take, hN]; omega)
  have e2 : C2.take (o + (k2 + m2)) = C.take (o + k2) ++ N := by
    rw [h2, e1, List.append_assoc]
    exact List.take_left' (by simp [List.length_take, hN]; omega)
  have e3 : (C2.drop o).take (k2 + m2) = (C2.take (o + (k2 + m2))).drop o := by
    rw [List.drop_take]
    congr 1
    omega
  rw [e3, e2, List.drop_append_of_le_length (by rw [List.length_take]; omega), List.drop_take]
  congr 1
  rw [← hF, List.take_take]
  congr 1
  omega

theorem flat_take (k : Nat) : ∀ q : List S98, (q.take k).flatMap e98 = (q.flatMap e98).take (k * 2) := by
  induction k with
  | zero => intro q; simp
  | succ k ih =>
    intro q
    cases q with
    | nil => simp
    | cons x q =>
      rw [List.take_succ_cons, List.flatMap_cons, List.flatMap_cons, ih]
      simp [e98, Nat.add_mul]
theorem flat_drop (k : Nat) : ∀ q : List S98, (q.drop k).flatMap e98 = (q.flatMap e98).drop (k * 2) := by
  induction k with
  | zero => intro q; simp
  | succ k ih =>
    intro q
    cases q with
    | nil => simp
    | cons x q =>
      rw [List.drop_succ_cons, List.flatMap_cons, ih]
      simp [e98, Nat.add_mul]
theorem flat_erase (q : List S98) (k : Nat) : (q.eraseIdx k).flatMap e98 = (q.flatMap e98).take (k * 2) ++ (q.flatMap e98).drop ((k + 1) * 2) := by
  rw [List.eraseIdx_eq_take_drop_succ, List.flatMap_append, flat_take, flat_drop]

set_option maxRecDepth 100000 in
set_option maxHeartbeats 1000000 in
theorem delete_any (base k : Nat) (v : Value) (q : List S98) (w : World) (hq : Qu w base v q) (hk : k < q.length) :
    Calls Try.prog 50 #[v, .int .i64 k, .int .i64 ((k : Int) + 1)] w fun e w' => ∃ v', e = .returned v' ∧ Qu w' base v' (q.eraseIdx k) ∧ v'.ownBlock = v.ownBlock ∧ w.grownBy w' v.ownBlock := by
  obtain ⟨hl, hv⟩ := hq
  rcases hv with ⟨h0, _⟩ | ⟨g, off, cap, cur, rfl, hb, hg, hn, hm, hs, hx⟩
  · omega
  · have hN : ∀ j, j < q.length * 2 → cur[off * 2 + j]? = (q.flatMap e98)[j]? := fun j hj => by
      rw [← hx, List.getElem?_take_of_lt hj, List.getElem?_drop, Array.getElem?_toList]
    have hcell : ∀ j u, (q.flatMap e98)[j]? = some u → w.cell? ⟨g, off * 2 + j, none⟩ = some u := fun j u hj => by
      have hj2 : j < q.length * 2 := by rw [← hl]; exact (List.getElem?_eq_some_iff.1 hj).1
      rw [blk_cell hg, hN j hj2, hj]
    have hfro : ∀ j, w.frozen? ⟨g, j, none⟩ = false := fun j => blk_frozen hg j
    have hsome : ∀ j, j < (off + cap) * 2 → (w.cell? ⟨g, j, none⟩).isSome = true := fun j hj => by
      rw [blk_cell hg, Array.getElem?_eq_getElem (by rw [hs]; exact hj)]
      rfl
    have hnews : ∀ j u, ((q.flatMap e98).drop ((k + 1) * 2))[j]? = some u → w.cell? ⟨g, off * 2 + (k + 1) * 2 + j, none⟩ = some u := fun j u hj => by
      rw [List.getElem?_drop] at hj
      rw [Nat.add_assoc]
      exact hcell _ u hj
    have hnl : ((q.flatMap e98).drop ((k + 1) * 2)).length = (q.length - (k + 1)) * 2 := by rw [List.length_drop, hl]; omega
    have h1c : ∀ u ∈ (q.flatMap e98).drop ((k + 1) * 2), u.oneCell' = true := fun u hu => by
      have := List.mem_of_mem_drop hu
      rw [List.mem_flatMap] at this
      obtain ⟨x, _, hx⟩ := this
      simp [e98] at hx
      rcases hx with rfl | rfl <;> rfl
    have HX := Aside0.mk hx
    have HL := Aside0.mk hl
    have HG := Aside0.mk hg
    have HS := Aside0.mk hs
    have HC := Aside0.mk hcell
    have HF := Aside0.mk hfro
    have HM := Aside0.mk hsome
    have HNW := Aside0.mk hnews
    have HNL := Aside0.mk hnl
    have H1C := Aside0.mk h1c
    clear hx hl hg hs hN hcell hfro hsome hnews hnl h1c
    unfold maxLen at hm
    have hn1 : q.length ≤ 9223372036854775807 := by omega
    have hc1 : cap ≤ 9223372036854775807 := by omega
    generalize hnws : (q.flatMap e98).drop ((k + 1) * 2) = news at *
    have HNS := Aside0.mk hnws
    clear hnws
    obtain ⟨i0, hi0, hz0, hz1, hz2⟩ := info_parts info98
    have hkz : ((k : Int) == (k : Int) + 1) = false := by simp; omega
    have hk2 : k ≤ cap := by omega
    have hk3 : k + 1 ≤ q.length := by omega
    have hk4 : k + 1 ≤ cap := by omega
    have hk5 : k ≤ q.length := by omega
    have hk6 : (0 : Int) ≤ (k : Int) + 1 := by omega
    have hk7 : (k : Int) + 1 ≤ (q.length : Int) := by omega
    generalize hqn : q.length = n at *
    have HQ := Aside0.mk hqn
    clear hqn
    by_cases hck : cap = k + 1
    · subst hck
      obtain rfl : n = k + 1 := by omega
      have hnw : news = [] := List.eq_nil_of_length_eq_zero (by rw [HNL.out]; omega)
      subst hnw
      have hA3 : ¬ k + 1 = k := by omega
      have hA4 : k + 1 - k = 1 := by omega
      have hk8 : (k : Int) ≤ (k : Int) + 1 := by omega
      go_enter Try.func50, Try.ntmps50
      go_wp2
      go_region_law (refine step_append_room (by rfl) _ _ _ (by rfl) 98 i0 2 Try.underlying95 hi0 hz1 g (off * 2) k (k + 1) ?hs ⟨g, off * 2, none⟩ 0 0 [] ?hx rfl ?hn ?h1 ?hr ?hp ?_; (case hs => go_simp); (case hx => go_simp); (case hn => exact fun j u hj => by simp at hj); (case h1 => exact fun u hu => by simp at hu); (case hr => omega); (case hp => exact fun j hj => by simp at hj))
      have hcl : ∀ ty, (Builtin.clear_ #[95] ty #[.slice (some ⟨g, off * 2 + k * 2, none⟩) 1 1]).run Try.prog (w.drew.setCells g (off * 2 + k * 2) []) = .ok (.tuple #[]) (w.drew.setCells g (off * 2 + k * 2) [.int .i64 0, .int .i64 0]) := fun ty =>
        run_clear1 w.drew ty g (off * 2 + k * 2) 1 (HM.out _ (by omega)) (HM.out _ (by omega)) (HF.out _) (HF.out _)
      go_wp2
      go_ret
      have hq := HQ.out
      obtain ⟨cur2, hc2, hs2, hl2⟩ := setCells_row (g := g) (e := 98) [.int .i64 0, .int .i64 0] (off * 2 + k * 2) w.drew cur HG.out (by rw [HS.out]; simp; omega)
      have hel : (q.eraseIdx k).length = k := by rw [List.length_eraseIdx, hq, if_pos hk]; omega
      refine ⟨.slice (some ⟨g, off * 2, none⟩) k (k + 1), rfl, ?_, rfl, ?_⟩
      · unfold Qu
        rw [hel]
        have hfe := flat_erase q k
        rw [HNS.out, List.append_nil] at hfe
        have hlen : ((q.eraseIdx k).flatMap e98).length = k * 2 := by rw [hfe, List.length_take, HL.out]; omega
        refine ⟨hlen, .inr ⟨g, off, k + 1, cur2, rfl, hb, hc2, by omega, by unfold maxLen; omega, by rw [hs2, HS.out], ?_⟩⟩
        rw [hfe]
        have h2 : cur2.toList = cur.toList.take (off * 2 + (k * 2 + 0)) ++ [.int .i64 0, .int .i64 0] ++ cur.toList.drop (off * 2 + (k * 2 + 0) + 2) := by rw [hl2]; rfl
        have h1 : cur.toList = cur.toList.take (off * 2 + k * 2) ++ [] ++ cur.toList.drop (off * 2 + k * 2 + 0) := by simp
        have h3 := del_list (m2 := 0) HX.out (by omega) h1 rfl (by rw [Array.length_toList, HS.out]; omega) h2
        simpa using h3
      · refine ⟨?_, ?_, ?_, ?_, ?_⟩
        · rw [(setCells_same g _ _ _).1]; rfl
        · rw [(setCells_same g _ _ _).2.1]; rfl
        · rw [(setCells_same g _ _ _).2.2.1]; rfl
        · rw [(setCells_same g _ _ _).2.2.2]; exact Nat.le_refl _
        · intro j hj hne
          have hjg : j ≠ g := fun e => hne (by rw [e]; rfl)
          rw [setCells_far _ _ j hjg]
          rfl
    · obtain ⟨m, rfl⟩ : ∃ m, n = k + 1 + m := ⟨n - (k + 1), by omega⟩
      have hnm : k + 1 + m - (k + 1) = m := by omega
      rw [hnm] at HNL
      have hA1 : k + m ≤ cap := by omega
      have hk8 : (k : Int) + 1 ≤ (k : Int) + 1 + (m : Int) := by omega
      have hk9 : (k : Int) + (m : Int) ≤ (k : Int) + 1 + (m : Int) := by omega
      have hk0 : (0 : Int) ≤ (k : Int) + (m : Int) := by omega
      have hA2 : k + m ≤ k + 1 + m := by omega
      have hA3 : ¬ cap = k + m := by omega
      have hA4 : k + 1 + m - (k + m) = 1 := by omega
      go_enter Try.func50, Try.ntmps50
      go_wp2
      go_region_law (refine step_append_room (by rfl) _ _ _ (by rfl) 98 i0 2 Try.underlying95 hi0 hz1 g (off * 2) k cap ?hs ⟨g, off * 2 + (k + 1) * 2, none⟩ m (cap - (k + 1)) news ?hx HNL.out ?hn H1C.out ?hr ?hp ?_; (case hs => go_simp); (case hx => go_simp); (case hn => exact fun j u hj => by rw [Addr.add_lit]; exact HNW.out j u hj); (case hr => omega); (case hp => exact fun j hj => ⟨HM.out _ (by rw [HNL.out] at hj; omega), HF.out _⟩))
      have hcl : ∀ ty, (Builtin.clear_ #[95] ty #[.slice (some ⟨g, off * 2 + (k + m) * 2, none⟩) 1 (cap - (k + m))]).run Try.prog (w.drew.setCells g (off * 2 + k * 2) news) = .ok (.tuple #[]) ((w.drew.setCells g (off * 2 + k * 2) news).setCells g (off * 2 + (k + m) * 2) [.int .i64 0, .int .i64 0]) := fun ty => by
        obtain ⟨cur1, hc1, hs1, hl1⟩ := setCells_row (g := g) (e := 98) news (off * 2 + k * 2) w.drew cur HG.out (by rw [HNL.out, HS.out]; omega)
        have hss : ∀ j, j < (off + cap) * 2 → ((w.drew.setCells g (off * 2 + k * 2) news).cell? ⟨g, j, none⟩).isSome = true := fun j hj => by
          rw [blk_cell hc1, Array.getElem?_eq_getElem (by rw [hs1, HS.out]; exact hj)]
          rfl
        exact run_clear1 _ ty g (off * 2 + (k + m) * 2) _ (hss _ (by omega)) (hss _ (by omega)) (blk_frozen hc1 _) (blk_frozen hc1 _)
      go_wp2
      go_ret
      have hq := HQ.out
      obtain ⟨cur1, hc1, hs1, hl1⟩ := setCells_row (g := g) (e := 98) news (off * 2 + k * 2) w.drew cur HG.out (by rw [HNL.out, HS.out]; omega)
      obtain ⟨cur2, hc2, hs2, hl2⟩ := setCells_row (g := g) (e := 98) [.int .i64 0, .int .i64 0] (off * 2 + (k + m) * 2) _ cur1 hc1 (by rw [hs1, HS.out]; simp; omega)
      have hel : (q.eraseIdx k).length = k + m := by rw [List.length_eraseIdx, hq, if_pos hk]; omega
      refine ⟨.slice (some ⟨g, off * 2, none⟩) (k + m) cap, rfl, ?_, rfl, ?_⟩
      · unfold Qu
        rw [hel]
        have hfe := flat_erase q k
        rw [HNS.out] at hfe
        have hlen : ((q.eraseIdx k).flatMap e98).length = (k + m) * 2 := by rw [hfe, List.length_append, List.length_take, HL.out, HNL.out]; omega
        refine ⟨hlen, .inr ⟨g, off, cap, cur2, rfl, hb, hc2, hA1, by unfold maxLen; omega, by rw [hs2, hs1, HS.out], ?_⟩⟩
        rw [hfe, Nat.add_mul]
        have h2 : cur2.toList = cur1.toList.take (off * 2 + (k * 2 + m * 2)) ++ [.int .i64 0, .int .i64 0] ++ cur1.toList.drop (off * 2 + (k * 2 + m * 2) + 2) := by rw [hl2, Nat.add_mul]; rfl
        exact del_list HX.out (by omega) hl1 HNL.out (by rw [Array.length_toList, HS.out]; omega) h2
      · refine ⟨?_, ?_, ?_, ?_, ?_⟩
        · rw [(setCells_same g _ _ _).1, (setCells_same g _ _ _).1]; rfl
        · rw [(setCells_same g _ _ _).2.1, (setCells_same g _ _ _).2.1]; rfl
        · rw [(setCells_same g _ _ _).2.2.1, (setCells_same g _ _ _).2.2.1]; rfl
        · rw [(setCells_same g _ _ _).2.2.2, (setCells_same g _ _ _).2.2.2]; exact Nat.le_refl _
        · intro j hj hne
          have hjg : j ≠ g := fun e => hne (by rw [e]; rfl)
          rw [setCells_far _ _ j hjg, setCells_far _ _ j hjg]
          rfl
end Go.Proofs.Ytdkfmbammdmohaa.PPolicyCosts

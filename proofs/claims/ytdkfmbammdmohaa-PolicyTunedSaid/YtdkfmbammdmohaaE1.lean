/- slices.IndexFunc over the pages that wait: the first one of a page. -/
import Derived.Test.YtdkfmbammdmohaaD1
namespace Go.Proofs.Ytdkfmbammdmohaa.PPolicyCosts
open Go.RowKit Go.Proofs.YtdkfmbammdmohaaW.PrintWords Go.Proofs.YtdkfmbammdmohaaW.PrintLast Go.Proofs.YtdkfmbammdmohaaW.PrintMore
open Go.Proofs.YtdkfmbammdmohaaM Go.Proofs.YtdkfmbammdmohaaS
attribute [local go_sem] max2_int min2_int max_two min_two max_three min_three max_four min_four
set_option linter.unusedVariables false
set_option linter.unusedSimpArgs false

theorem samePage_any (B : Nat) (x : S98) (page : Int) (W : World) (hc : W.cell? ⟨B, 2, none⟩ = some (.int .i64 page)) :
    Calls Try.prog 49 #[.agg #[.int .i64 x.f0, .int .i64 x.f1], .pointer (some ⟨B, 0, none⟩)] W fun e w' => e = .returned (.bool (x.f1 == page)) ∧ Below W.heap.size W w' := by
  obtain ⟨s, p⟩ := x
  have hlt : B < W.heap.size := World.block_lt_of_cell? W _ hc
  go_enter Try.func49, Try.ntmps49
  go_wp2
  go_ret
  exact ⟨rfl, by repeat (first | exact Below.refl _ _ | apply below_drew | apply below_alloc)⟩

theorem idxw_empty (A : Option Addr) (c : Nat) (fv : Value) (w : World) : Calls Try.prog 48 #[.slice A 0 c, fv] w fun e w' => e = .returned (.int .i64 (-1)) ∧ w' = w := by
  go_enter Try.func48, Try.ntmps48
  go_wp2
  refine wp_loop_rounds 1 ?_; rw [rounds_succ]
  go_wp2
  go_ret
  exact ⟨rfl, rfl⟩

/-- the index of the first one of a page; -1: there is none -/
def idxW (q : List S98) (page : Int) : Int := match q.findIdx? (fun y => y.f1 == page) with | some k => k | none => -1

theorem idxBy_is (q : List S98) (page : Int) : Lib.idxBy (fun _ y => y.f1 == page) q default = idxW q page := by
  unfold idxW
  cases h : q.findIdx? (fun y => y.f1 == page) with
  | none =>
    have h1 := List.findIdx?_eq_none_iff.1 h
    have := Lib.idxBy_miss (fun _ y => y.f1 == page) q q.length (default : S98) (fun j hj => by
      rw [getElem!_pos q j hj]
      exact h1 _ (List.getElem_mem hj))
    rw [List.take_length] at this
    exact this
  | some k =>
    obtain ⟨hk, hp, hm⟩ := List.findIdx?_eq_some_iff_getElem.1 h
    have := Lib.idxBy_hit (fun _ y => y.f1 == page) q q.length k (default : S98) hk (Nat.le_refl _) (by rw [getElem!_pos q k hk]; exact hp) (fun j hj => by
      rw [getElem!_pos q j (by omega)]
      simpa using hm j hj)
    rw [List.take_length] at this
    exact this

theorem idx_any (base B : Nat) (v : Value) (q : List S98) (a page : Int) (b : Bool) (w : World) (hq : Qu w base v q) (hB : w.heap[B]? = some (.cells #[.int .i64 a, .bool b, .int .i64 page] 90 (0, 0))) :
    Calls Try.prog 48 #[v, .func (.func 49) #[] #[.pointer (some ⟨B, 0, none⟩)]] w fun e w' => e = .returned (.int .i64 (idxW q page)) ∧ Below w.heap.size w w' := by
  obtain ⟨A, c, rfl, hcl⟩ := q_slice hq
  rcases Nat.eq_zero_or_pos q.length with h0 | h0
  · obtain rfl : q = [] := List.eq_nil_of_length_eq_zero h0
    refine (idxw_empty A c _ w).mono ?_
    rintro e w' ⟨rfl, rfl⟩
    exact ⟨rfl, Below.refl _ _⟩
  · have hbig := q_max hq
    obtain ⟨hl, hv⟩ := hq
    rcases hv with ⟨h1, _⟩ | ⟨g, off, cap, cur, he, hb, hg, hn, hm, hs, hx⟩
    · omega
    · injection he with e1 e2 e3
      subst e1; subst e3
      have hc : ∀ j, j < q.length → ∀ i v, (e98 q[j]!)[i]? = some v → w.cell? ⟨g, off * 2 + j * 2 + i, none⟩ = some v := by
        intro j hj i v hv
        have hi : i < 2 := (List.getElem?_eq_some_iff.1 hv).1
        have hf := YtdkfmbammdmohaaS.flatMap_at e98 2 (fun _ => rfl) q (j * 2 + i) (by omega)
        rw [show (j * 2 + i) / 2 = j from by omega, show (j * 2 + i) % 2 = i from by omega, hv, ← hx, List.getElem?_take_of_lt (by omega), List.getElem?_drop, Array.getElem?_toList] at hf
        rw [blk_cell hg, Nat.add_assoc]
        exact hf
      have eg : ∀ args w, (callFunc 49 args).run Try.prog w = .ok (.enter 49 args) w := enters_of Try.func49 (by kernel_rfl) rfl
      have hp : PredBelow Try.prog 49 #[.pointer (some ⟨B, 0, none⟩)] (fun x : S98 => .agg (e98 x).toArray) (fun y => y.f1 == page) w := fun W x hbl =>
        (samePage_any B x page W ((blk_cell (blk_below hB hbl) 2).trans rfl)).mono fun e w' ⟨he, hb'⟩ => ⟨he, below_step hbl hb'⟩
      have := AnyQ.slices_IndexFunc Try.idxWait 2 Try.isAgg98 Try.sizeOf98 e98 (fun _ => rfl) (fun y => y.f1 == page) 49 #[.pointer (some ⟨B, 0, none⟩)] eg g (off * 2) q.length c q w hp (Nat.le_refl _) hbig (blk_lt hg) hc
      rw [List.take_length, idxBy_is] at this
      exact this
end Go.Proofs.Ytdkfmbammdmohaa.PPolicyCosts

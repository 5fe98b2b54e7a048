/- The walk of TopSeasons; its arguments opened. -/
import Derived.Test.YtdkfmbammdmohaaYa
import Derived.Test.YtdkfmbammdmohaaR0
import Derived.Laws.IdiomArrays
namespace Go.Proofs.Ytdkfmbammdmohaa.PPolicyCosts
open Go.RowKit Go.ChangeShapes Go.WideShapes Go.Deep Go.Joins Go.ChangeAt Go.Proofs.YtdkfmbammdmohaaW.PrintWords Go.Proofs.YtdkfmbammdmohaaW.PrintLast Go.Proofs.YtdkfmbammdmohaaW.PrintMore
open Go.Proofs.YtdkfmbammdmohaaM Go.Proofs.YtdkfmbammdmohaaS
set_option linter.unusedVariables false
set_option linter.unusedSimpArgs false

set_option maxRecDepth 100000 in
set_option maxHeartbeats 2000000 in
theorem seasons_any (Au : Option Addr) (cu : Nat) (xs : List S86) (hold8 win8 age8 most8 : Int) (w : World) (hC : Kd.C k86 w Au xs.length xs) (hc : xs.length ≤ cu) (hb : Bytes3 xs)
    (a0 : 0 ≤ hold8) (a1 : hold8 < 256) (b0 : 0 ≤ win8) (b1 : win8 < 256) (c0 : 0 ≤ age8) (c1 : age8 < 256) (d0 : 0 ≤ most8) (d1 : most8 < 256) :
    Calls Try.prog 6 #[.agg #[.slice Au xs.length cu, .int .u8 hold8, .int .u8 win8], .int .u8 age8, .int .u8 most8] w fun e w' => e = .returned (.bool true) ∧ Below w.heap.size w w' := by
  have HX := Aside0.mk (show Below w.heap.size w (w.alloc (.cells #[.slice Au xs.length cu, .int .u8 hold8, .int .u8 win8] 44)) from below_alloc (Below.refl _ _) _)
  have HS := Aside0.mk (seasons31_any Au cu xs hold8 win8 age8 most8 _ (Kd.C_below hC HX.out) hc hb a0 a1 b0 b1 c0 c1 d0 d1)
  clear hC hb
  go_enter Try.func6, Try.ntmps6
  go_wp2_with (first
    | (go_at_call 15; refine HS.out.mono ?_; rintro e w1 ⟨rfl, hb1⟩)
    | (go_at_call 16; refine (known31_any _).mono ?_; rintro e w2 ⟨rfl, hb2⟩))
  go_ret
  exact ⟨rfl, below_step (below_step HX.out hb1) hb2⟩

theorem wf_u8 {n : Int} (h : (Lit.int .u8 n).wf = true) : 0 ≤ n ∧ n < 256 := by
  have h1 : IntKind.u8.min = 0 := by decide
  have h2 : IntKind.u8.max = 255 := by decide
  simp [Lit.wf, h1, h2] at h
  omega
theorem open_items {H : Type} {enc : TypeId × Value → H} {W : World} {spare : Nat → Bool} {held : Bool} {v : Value} {y : DataW H × List MemPlace} {base n : Nat}
    (h : DataW.trod enc Try.prog W base spare held n 42 [v] = some y) : ∃ (A : Option Addr) (c : Nat) (l : List S86), v = .slice A l.length c ∧ l.length ≤ c ∧ Kd.C k86 W A l.length l ∧ Bytes3 l := by
  rcases open_slice Try.underlying42 h with ⟨hcs, _⟩ | ⟨a, len, cap, m, n', D, Pl, hcs, hb, hl, hm, hmm, hx, hi⟩
  · simp at hcs
    subst hcs
    exact ⟨none, 0, [], rfl, Nat.le_refl _, ⟨rfl, by simp, fun h => by simp at h⟩, fun x hx => by cases hx⟩
  · simp at hcs
    subst hcs
    have hC : Try.prog.cellsOf 86 = 3 := by kernel_rfl
    have hq : ∀ i, i < len → ∃ x : S86, W.cell? (a.add (i * 3 + 0)) = some (.int .u8 x.f0) ∧ W.cell? (a.add (i * 3 + 1)) = some (.int .u8 x.f1) ∧ W.cell? (a.add (i * 3 + 2)) = some (.int .u8 x.f2) ∧ ((0 ≤ x.f0 ∧ x.f0 < 256) ∧ (0 ≤ x.f1 ∧ x.f1 < 256) ∧ (0 ≤ x.f2 ∧ x.f2 < 256)) := by
      intro i hil
      have hlm : len ≤ m := by rw [hmm]; split <;> omega
      obtain ⟨cs', hc, ht'⟩ := hi i (by omega)
      rw [hC] at hc
      obtain ⟨_, hcl, hat⟩ := World.cells?_some hc
      obtain ⟨c0, c1, c2, rfl⟩ : ∃ c0 c1 c2, cs' = [c0, c1, c2] := by
        match cs', hcl with
        | [c0, c1, c2], _ => exact ⟨c0, c1, c2, rfl⟩
      obtain ⟨y0, y1, y2, n2, _, t0, t1, t2⟩ := trod_array3 Try.underlying86 (by kernel_rfl) ht'
      obtain ⟨x0, e0, _, r0⟩ := DataW.trod_int Try.underlying5 t0
      obtain ⟨x1, e1, _, r1⟩ := DataW.trod_int Try.underlying5 t1
      obtain ⟨x2, e2, _, r2⟩ := DataW.trod_int Try.underlying5 t2
      simp at e0 e1 e2
      subst e0 e1 e2
      refine ⟨⟨x0, x1, x2⟩, ?_, ?_, ?_, wf_u8 r0, wf_u8 r1, wf_u8 r2⟩
      · rw [← Go.Deep.add_add]; exact hat 0 (by omega)
      · rw [← Go.Deep.add_add]; exact hat 1 (by omega)
      · rw [← Go.Deep.add_add]; exact hat 2 (by omega)
    haveI : Inhabited S86 := ⟨⟨0, 0, 0⟩⟩
    obtain ⟨l, hll, hxs⟩ := exists_list hq
    subst hll
    refine ⟨some a, cap, l, rfl, hl, ⟨rfl, by unfold maxLen at hm; omega, fun hn => ⟨a, rfl, fun j p hp => ⟨_, rfl, k86_mk _ p, fun i u hu => ?_⟩⟩⟩, fun x hxl => ?_⟩
    · obtain ⟨c0, c1, c2, _⟩ := hxs j p hp
      match i, hu with
      | 0, hu => simp at hu; subst hu; exact c0
      | 1, hu => simp at hu; subst hu; exact c1
      | 2, hu => simp at hu; subst hu; exact c2
      | i + 3, hu => simp at hu
    · obtain ⟨j, hj, rfl⟩ := List.getElem_of_mem hxl
      exact (hxs j _ (List.getElem?_eq_getElem hj)).2.2.2
end Go.Proofs.Ytdkfmbammdmohaa.PPolicyCosts

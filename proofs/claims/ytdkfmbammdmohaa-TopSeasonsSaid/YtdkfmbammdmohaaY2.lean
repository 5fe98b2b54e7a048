/- The walk of gaps31. -/
import Derived.Test.YtdkfmbammdmohaaY1
import Derived.Laws.OwnMore
import Derived.RegionTactic
import Derived.Deep.RegionWith
import Derived.Deep.RegionHeld3
namespace Go.Proofs.Ytdkfmbammdmohaa.PPolicyCosts
open Go.RowKit Go.Proofs.YtdkfmbammdmohaaW.PrintWords Go.Proofs.YtdkfmbammdmohaaW.PrintLast Go.Proofs.YtdkfmbammdmohaaW.PrintMore
open Go.Proofs.YtdkfmbammdmohaaM Go.Proofs.YtdkfmbammdmohaaS
attribute [local go_sem] max2_int min2_int max_two min_two max_three min_three max_four min_four
set_option linter.unusedVariables false
set_option linter.unusedSimpArgs false

theorem rd52_is (l : List S52) (k : Nat) (h : k < l.length) : rd_T52 l (k : Int) = l[k] := by
  unfold rd_T52
  rw [Int.toNat_natCast, List.getD_eq_getElem?_getD, List.getElem?_eq_getElem h]
  rfl
theorem flat3 {α : Type} (enc : α → List Value) (h3 : ∀ x, (enc x).length = 3) : ∀ (xs : List α) (j : Nat) (hj : j < xs.length) (i : Nat), i < 3 → (xs.flatMap enc)[j * 3 + i]? = (enc xs[j])[i]?
  | [], j, hj, _, _ => by simp at hj
  | x :: xs, 0, _, i, hi => by
    rw [List.flatMap_cons, List.getElem?_append_left (by rw [h3]; omega)]
    simp
  | x :: xs, j + 1, hj, i, hi => by
    rw [List.flatMap_cons, List.getElem?_append_right (by rw [h3]; omega), h3]
    have e : (j + 1) * 3 + i - 3 = j * 3 + i := by omega
    rw [e, flat3 enc h3 xs j (by simpa using hj) i hi]
    simp
theorem flat3_len {α : Type} (enc : α → List Value) (h3 : ∀ x, (enc x).length = 3) (xs : List α) : (xs.flatMap enc).length = xs.length * 3 := by
  induction xs with
  | nil => rfl
  | cons x xs ih => rw [List.flatMap_cons, List.length_append, h3, ih, List.length_cons]; omega
theorem flat3_set {α : Type} (enc : α → List Value) (h3 : ∀ x, (enc x).length = 3) (xs : List α) (j : Nat) (hj : j < xs.length) (x : α) (a b c : Value) (hx : enc x = [a, b, c]) :
    (((xs.flatMap enc).set (j * 3) a).set (j * 3 + 1) b).set (j * 3 + 2) c = (xs.set j x).flatMap enc := by
  apply List.ext_getElem?
  intro m
  obtain ⟨q, i, hi, rfl⟩ : ∃ q i, i < 3 ∧ m = q * 3 + i := ⟨m / 3, m % 3, Nat.mod_lt _ (by omega), by omega⟩
  by_cases hq : q < xs.length
  · rw [flat3 enc h3 (xs.set j x) q (by rw [List.length_set]; exact hq) i hi]
    have hlen := flat3_len enc h3 xs
    by_cases hqj : q = j
    · subst hqj
      rw [List.getElem_set_self, hx]
      match i, hi with
      | 0, _ => rw [List.getElem?_set_ne (by omega), List.getElem?_set_ne (by omega), Nat.add_zero, List.getElem?_set_self (by omega)]; rfl
      | 1, _ => rw [List.getElem?_set_ne (by omega), List.getElem?_set_self (by rw [List.length_set, hlen]; omega)]; rfl
      | 2, _ => rw [List.getElem?_set_self (by rw [List.length_set, List.length_set, hlen]; omega)]; rfl
    · rw [List.getElem?_set_ne (by omega), List.getElem?_set_ne (by omega), List.getElem?_set_ne (by omega), flat3 enc h3 xs q hq i hi, List.getElem_set_ne (by omega)]
  · have h1 := flat3_len enc h3 (xs.set j x)
    have h2 := flat3_len enc h3 xs
    rw [List.length_set] at h1
    rw [List.getElem?_eq_none (by rw [List.length_set, List.length_set, List.length_set, h2]; omega), List.getElem?_eq_none (by omega)]
/-- An owned row of elements of three cells: element j stored. -/
theorem own_set3 {α : Type} (enc : α → List Value) (h3 : ∀ x, (enc x).length = 3) {w : World} {base e g n cap : Nat} {xs : List α} (h : w.ownsRow base e 3 (.slice (some ⟨g, 0, none⟩) n cap) n (xs.flatMap enc)) (j : Nat) (hj : j < xs.length) (x : α) (a b c : Value) (hx : enc x = [a, b, c]) :
    (((w.setCell ⟨g, j * 3, none⟩ a).setCell ⟨g, j * 3 + 1, none⟩ b).setCell ⟨g, j * 3 + 2, none⟩ c).ownsRow base e 3 (.slice (some ⟨g, 0, none⟩) n cap) n ((xs.set j x).flatMap enc) := by
  rw [← flat3_set enc h3 xs j hj x a b c hx]
  exact (((h.stored (j * 3) a).1.stored (j * 3 + 1) b).1.stored (j * 3 + 2) c).1
theorem below_set3 {B : Nat} {w0 w : World} (h : Below B w0 w) {g : Nat} (hg : B ≤ g) (i : Nat) (a : Value) : Below B w0 (w.setCell ⟨g, i, none⟩ a) := h.setCell hg _

theorem rd73x_is (l : List S73) (k : Nat) (h : k < l.length) : rd_T73 l (k : Int) = l[k] := by
  unfold rd_T73
  rw [Int.toNat_natCast, List.getD_eq_getElem?_getD, List.getElem?_eq_getElem h]
  rfl
def ltG (a b : S52) : Prop := a.f1 < b.f1 ∨ (a.f1 = b.f1 ∧ a.f0 < b.f0)
instance (a b : S52) : Decidable (ltG a b) := by unfold ltG; exact inferInstance
/-- two neighbours change places -/
def swapG (xs : List S52) (j : Nat) : List S52 := (xs.set (j + 1) (rd_T52 xs (j : Int))).set j (rd_T52 xs ((j + 1 : Nat) : Int))
theorem swapG_len (xs : List S52) (j : Nat) : (swapG xs j).length = xs.length := by simp [swapG]
/-- a gap goes up to its place -/
def bubG : List S52 → Nat → List S52
  | xs, 0 => xs
  | xs, j + 1 => if ltG (rd_T52 xs ((j + 1 : Nat) : Int)) (rd_T52 xs (j : Int)) then bubG (swapG xs j) j else xs
/-- what a use and those behind it add to the gaps -/
def scanG (u : S73) (r : List S73) (g : List S52) : List S52 := match r.find? (fun v => v.f0 == u.f0) with
  | none => g
  | some v => bubG (g ++ [⟨u.f0, u.f2, v.f1⟩]) g.length
def gapsR (l : List S73) : Nat → List S52
  | 0 => []
  | i + 1 => scanG (rd_T73 l (i : Int)) (l.drop (i + 1)) (gapsR l i)
theorem gapsR_succ (l : List S73) (i : Nat) : gapsR l (i + 1) = scanG (rd_T73 l (i : Int)) (l.drop (i + 1)) (gapsR l i) := rfl
theorem bubG_len : ∀ (j : Nat) (xs : List S52), (bubG xs j).length = xs.length
  | 0, xs => rfl
  | j + 1, xs => by
    rw [bubG]
    split
    · rw [bubG_len j, swapG_len]
    · rfl
theorem scanG_len (u : S73) (r : List S73) (g : List S52) : (scanG u r g).length ≤ g.length + 1 := by
  unfold scanG
  split
  · omega
  · rw [bubG_len]; simp
theorem gapsR_len (l : List S73) : ∀ i, (gapsR l i).length ≤ i
  | 0 => by simp [gapsR]
  | i + 1 => by
    have := gapsR_len l i
    have := scanG_len (rd_T73 l (i : Int)) (l.drop (i + 1)) (gapsR l i)
    rw [gapsR_succ]
    omega
def Gaps31Post (l : List S73) (w : World) (e : Ending) (w' : World) : Prop :=
  Below w.heap.size w w' ∧ ∃ A c, e = .returned (.slice A (gapsR l l.length).length c) ∧ (gapsR l l.length).length ≤ c ∧ Kd.C k52 w' A (gapsR l l.length).length (gapsR l l.length)

theorem info52 : (Try.prog.info? 52).map (fun i => (i.zero, i.size, i.bytes)) = some (some (.agg #[(.int .i64 0), (.int .i64 0), (.int .i64 0)]), 3, 24) := by kernel_rfl
theorem own_cells {α : Type} {w : World} {base e g n cap : Nat} {xs : List α} (enc : α → List Value) (h3 : ∀ x, (enc x).length = 3) (h : w.ownsRow base e 3 (.slice (some ⟨g, 0, none⟩) n cap) n (xs.flatMap enc)) (hn : n = xs.length) (j : Nat) (hj : j < xs.length) (i : Nat) (hi : i < 3) :
    w.cell? ⟨g, j * 3 + i, none⟩ = (enc xs[j])[i]? := by
  rw [h.cellAt (j * 3 + i) (by omega), flat3 enc h3 xs j hj i hi]

set_option maxRecDepth 100000 in
set_option maxHeartbeats 4000000 in
theorem gaps31_any (A : Option Addr) (c : Nat) (l : List S73) (w : World) (hC : Kd.C k73 w A l.length l) (hc : l.length ≤ c) (hl : l.length ≤ 200) :
    Calls Try.prog 35 #[.slice A l.length c] w (Gaps31Post l w) := by
  have HC := Aside0.mk hC
  clear hC
  go_enter Try.func35, Try.ntmps35
  go_wp2
  go_loopw [3, 4] (fun v3 v4 wr => ∃ i : Nat, i ≤ l.length ∧ v4 = .int .i64 i ∧ Aside0 (Below w.heap.size w wr ∧ wr.ownsRow w.heap.size 52 3 v3 (gapsR l i).length ((gapsR l i).flatMap e52))) (fun v3 v4 wr => l.length - (intOf v4).toNat)
  case atStart => exact ⟨0, Nat.zero_le _, rfl, ⟨Below.refl _ _, own_nil _ _ _ _⟩⟩
  case round =>
    obtain ⟨i, hi, rfl, HI⟩ := hrel
    by_cases hlt : i < l.length
    · have hgl := gapsR_len l i
      have HGS := Aside0.mk (gapsR_succ l i)
      have HBo := Aside0.mk HI.out.1
      have HOo := Aside0.mk HI.out.2
      clear HI
      obtain ⟨gR, hgR⟩ : ∃ g, gapsR l i = g := ⟨_, rfl⟩
      rw [hgR] at HGS HOo hgl
      clear hgR
      obtain ⟨tg, htg⟩ : ∃ g, gapsR l (i + 1) = g := ⟨_, rfl⟩
      rw [htg] at HGS
      have HTG := Aside0.mk htg
      clear htg
      obtain ⟨wo, hwo⟩ : ∃ wo : World, wo = wr := ⟨_, rfl⟩
      subst hwo
      go_wp2
      go_loopw [3, 5, 6] (fun v3 v5 v6 wr => ∃ k : Nat, i + 1 ≤ k ∧ k ≤ l.length ∧ v5 = .int .i64 k ∧ Aside0 (Below w.heap.size w wr ∧ wr.ownsRow w.heap.size 52 3 v3 gR.length (gR.flatMap e52) ∧ tg = scanG (rd_T73 l (i : Int)) (l.drop k) gR)) (fun v3 v5 v6 wr => l.length - (intOf v5).toNat)
      case atStart => exact ⟨i + 1, Nat.le_refl _, by omega, by go_num, ⟨HBo.out, HOo.out, HGS.out⟩⟩
      case round =>
        obtain ⟨k, hik, hk, rfl, HI⟩ := hrel
        by_cases hltk : k < l.length
        · obtain ⟨ad, rfl, hx0, hx1, hx2⟩ := at_T73 (Kd.C_below HC.out HI.out.1) (i : Int) (by omega) (by omega)
          obtain ⟨ad2, he2, hz0, hz1, hz2⟩ := at_T73 (Kd.C_below HC.out HI.out.1) (k : Int) (by omega) (by omega)
          injection he2 with he2
          subst he2
          simp only [Int.toNat_natCast] at hx0 hx1 hx2 hz0 hz1 hz2
          have hdr : l.drop k = l[k] :: l.drop (k + 1) := List.drop_eq_getElem_cons hltk
          have hsc := HI.out.2.2
          rw [hdr, ← rd73x_is l k hltk] at hsc
          have HSC := Aside0.mk hsc
          have HBk := Aside0.mk HI.out.1
          have HOk := Aside0.mk HI.out.2.1
          have hwsz : w.heap.size ≤ wr.heap.size := HI.out.1.size
          clear HI hdr hsc
          generalize hui : rd_T73 l (i : Int) = u at *
          have HUI := Aside0.mk hui
          clear hui
          generalize hvk : rd_T73 l (k : Int) = v at *
          have HVK := Aside0.mk hvk
          clear hvk
          obtain ⟨p, f, t⟩ := u
          obtain ⟨p', f', t'⟩ := v
          simp only at hx0 hx1 hx2 hz0 hz1 hz2
          by_cases hpp : p' = p
          · subst hpp
            go_wp2
            go_quiet (fail)
            go_wp2
            refine genW (fun W => Below w.heap.size w W ∧ W.ownsRow w.heap.size 52 3 u3 gR.length (gR.flatMap e52)) ⟨below_step HBk.out (pw_below_drewN (Below.refl _ _) _), pw_own_below HOk.out (pw_below_drewN (Below.refl _ _) _)⟩ ?_
            clear hx0 hx1 hx2 hz0 hz1 hz2 HBk HOk hwsz
            rintro wq ⟨hbq, hoq⟩
            have HBk := Aside0.mk hbq
            have HOk := Aside0.mk hoq
            have hwsz : w.heap.size ≤ wq.heap.size := hbq.size
            clear hbq hoq
            obtain ⟨ad3, he3, hx0, hx1, hx2⟩ := at_T73 (Kd.C_below HC.out HBk.out) (i : Int) (by omega) (by omega)
            injection he3 with he3
            subst he3
            obtain ⟨ad4, he4, hz0, hz1, hz2⟩ := at_T73 (Kd.C_below HC.out HBk.out) (k : Int) (by omega) (by omega)
            injection he4 with he4
            subst he4
            rw [HUI.out] at hx0 hx1 hx2
            rw [HVK.out] at hz0 hz1 hz2
            simp only [Int.toNat_natCast] at hx0 hx1 hx2 hz0 hz1 hz2
            obtain ⟨i0, hi0, hw0, hw1, hw2⟩ := info_parts info52
            go_cut [3] (fun s3 wc => ∃ gg cap, s3 = .slice (some ⟨gg, 0, none⟩) (gR.length + 1) cap ∧ Aside0 (Below w.heap.size w wc ∧ wc.ownsRow w.heap.size 52 3 (.slice (some ⟨gg, 0, none⟩) (gR.length + 1) cap) (gR.length + 1) ((gR ++ [(⟨p', t, f'⟩ : S52)]).flatMap e52)))
            case first =>
              go_region_held3 (fun w' => w'.cell? (ad.add (i * 3)) = some (.int .i64 p') ∧ w'.cell? ⟨(ad.add (i * 3)).block, (ad.add (i * 3)).off + 2, none⟩ = some (.int .i64 t) ∧ w'.cell? ⟨(ad.add (k * 3)).block, (ad.add (k * 3)).off + 1, none⟩ = some (.int .i64 f'))
                (first | go_keep | (refine ⟨?_, ?_, ?_⟩ <;> first | assumption | go_simp))
                ((refine step_append_lies _ (by rfl) _ _ _ (by rfl) w.heap.size 52 i0 _ 3 24 Try.underlying46 hi0 hw0 hw1 hw2 rfl (by omega) u3 gR.length (gR.flatMap e52) (by rfl) ((HOk.out.alloc _).drew) ⟨wq.heap.size, 0, none⟩ 1 1 [.int .i64 p', .int .i64 t, .int .i64 f'] (by rfl) (by rfl) (World.news_of_block (cs := #[.int .i64 p', .int .i64 t, .int .i64 f']) (t := 52) (fr := (0, 0)) (heap_alloc_new wq _)) (by simp [Value.oneCell']) (by omega) (by simp only [maxLen]; omega) (by omega) (by simp; omega) (wq.heap.size + 1) (by simp) ?_; intro gg cap w5 hown5 hgr5 hat5 hlt5
                  have HB5 := Aside0.mk ((below_drew (HBk.out.alloc hwsz _)).grown hgr5 (by simp; omega) (own_base HOk.out))
                  have HO5 := Aside0.mk hown5
                  obtain ⟨ad5, he5, hx0, hx1, hx2⟩ := at_T73 (Kd.C_below HC.out HB5.out) (i : Int) (by omega) (by omega)
                  injection he5 with he5
                  subst he5
                  obtain ⟨ad6, he6, hz0, hz1, hz2⟩ := at_T73 (Kd.C_below HC.out HB5.out) (k : Int) (by omega) (by omega)
                  injection he6 with he6
                  subst he6
                  rw [HUI.out] at hx0 hx1 hx2
                  rw [HVK.out] at hz0 hz1 hz2
                  simp only [Int.toNat_natCast] at hx0 hx1 hx2 hz0 hz1 hz2
                  clear hown5 hgr5 hat5 hlt5))
              go_wp2_with fail
              go_meet
              exact ⟨gg, cap, rfl, ⟨HB5.out, by rw [List.flatMap_append]; exact HO5.out⟩⟩
            case rest =>
            obtain ⟨gg, cap, rfl, HI3⟩ := hcut
            have hst : bubG (gR ++ [(⟨p', t, f'⟩ : S52)]) gR.length = tg := by
              have h := HSC.out
              unfold scanG at h
              rw [List.find?_cons_of_pos (by simp)] at h
              exact h.symm
            have HST := Aside0.mk hst
            have hne := Aside0.mk (show (gR ++ [(⟨p', t, f'⟩ : S52)]).length = gR.length + 1 by simp)
            generalize gR ++ [(⟨p', t, f'⟩ : S52)] = xs0 at *
            clear hst hx0 hx1 hx2 hz0 hz1 hz2 HBk HOk
            go_wp2
            go_loopw [6] (fun v6 wr => ∃ (j : Nat) (xs : List S52), j ≤ gR.length ∧ v6 = .int .i64 j ∧ Aside0 (xs.length = gR.length + 1 ∧ Below w.heap.size w wr ∧ wr.ownsRow w.heap.size 52 3 (.slice (some ⟨gg, 0, none⟩) (gR.length + 1) cap) (gR.length + 1) (xs.flatMap e52) ∧ bubG xs j = tg)) (fun v6 wr => (intOf v6).toNat)
            case atStart => exact ⟨gR.length, xs0, Nat.le_refl _, by go_num, ⟨hne.out, HI3.out.1, HI3.out.2, HST.out⟩⟩
            case round =>
              obtain ⟨j, xs, hj, rfl, HI⟩ := hrel
              have HBj := Aside0.mk HI.out.2.1
              have HOj := Aside0.mk HI.out.2.2.1
              have HBB := Aside0.mk HI.out.2.2.2
              have HLX := Aside0.mk HI.out.1
              clear HI
              have hgw : w.heap.size ≤ gg := own_base HOj.out gg rfl
              have hgz : gg < wr.heap.size := own_lt HOj.out gg rfl
              by_cases hj0 : 0 < j
              · have c0 : wr.cell? ⟨gg, j * 3, none⟩ = some (.int .i64 (rd_T52 xs (j : Int)).f0) := by
                  have := own_cells e52 (fun _ => rfl) HOj.out HLX.out.symm j (by have := HLX.out; omega) 0 (by omega)
                  rw [← rd52_is xs j (by have := HLX.out; omega)] at this
                  exact this
                have c1 : wr.cell? ⟨gg, j * 3 + 1, none⟩ = some (.int .i64 (rd_T52 xs (j : Int)).f1) := by
                  have := own_cells e52 (fun _ => rfl) HOj.out HLX.out.symm j (by have := HLX.out; omega) 1 (by omega)
                  rw [← rd52_is xs j (by have := HLX.out; omega)] at this
                  exact this
                have c2 : wr.cell? ⟨gg, j * 3 + 2, none⟩ = some (.int .i64 (rd_T52 xs (j : Int)).f2) := by
                  have := own_cells e52 (fun _ => rfl) HOj.out HLX.out.symm j (by have := HLX.out; omega) 2 (by omega)
                  rw [← rd52_is xs j (by have := HLX.out; omega)] at this
                  exact this
                have d0 : wr.cell? ⟨gg, (j - 1) * 3, none⟩ = some (.int .i64 (rd_T52 xs ((j - 1 : Nat) : Int)).f0) := by
                  have := own_cells e52 (fun _ => rfl) HOj.out HLX.out.symm (j - 1) (by have := HLX.out; omega) 0 (by omega)
                  rw [← rd52_is xs (j - 1) (by have := HLX.out; omega)] at this
                  exact this
                have d1 : wr.cell? ⟨gg, (j - 1) * 3 + 1, none⟩ = some (.int .i64 (rd_T52 xs ((j - 1 : Nat) : Int)).f1) := by
                  have := own_cells e52 (fun _ => rfl) HOj.out HLX.out.symm (j - 1) (by have := HLX.out; omega) 1 (by omega)
                  rw [← rd52_is xs (j - 1) (by have := HLX.out; omega)] at this
                  exact this
                have d2 : wr.cell? ⟨gg, (j - 1) * 3 + 2, none⟩ = some (.int .i64 (rd_T52 xs ((j - 1 : Nat) : Int)).f2) := by
                  have := own_cells e52 (fun _ => rfl) HOj.out HLX.out.symm (j - 1) (by have := HLX.out; omega) 2 (by omega)
                  rw [← rd52_is xs (j - 1) (by have := HLX.out; omega)] at this
                  exact this
                have f0 : wr.frozen? ⟨gg, j * 3, none⟩ = false := HOj.out.frozenAt _
                have f1 : wr.frozen? ⟨gg, (j - 1) * 3, none⟩ = false := HOj.out.frozenAt _
                have f2 : wr.frozen? ⟨gg, j * 3 + 1, none⟩ = false := HOj.out.frozenAt _
                have f3 : wr.frozen? ⟨gg, (j - 1) * 3 + 1, none⟩ = false := HOj.out.frozenAt _
                have f4 : wr.frozen? ⟨gg, j * 3 + 2, none⟩ = false := HOj.out.frozenAt _
                have f5 : wr.frozen? ⟨gg, (j - 1) * 3 + 2, none⟩ = false := HOj.out.frozenAt _
                obtain ⟨j', rfl⟩ : ∃ j', j = j' + 1 := ⟨j - 1, by omega⟩
                have hbub := HBB.out
                rw [bubG] at hbub
                have ej : j' + 1 - 1 = j' := by omega
                rw [ej] at d0 d1 d2 f1 f3 f5
                have HBU := Aside0.mk hbub
                clear hbub ej
                have hsw : swapG xs j' = (xs.set (j' + 1) (rd_T52 xs (j' : Int))).set j' (rd_T52 xs ((j' + 1 : Nat) : Int)) := rfl
                have HSW := Aside0.mk hsw
                clear hsw
                generalize rd_T52 xs ((j' + 1 : Nat) : Int) = a at *
                generalize rd_T52 xs (j' : Int) = b at *
                by_cases hab : ltG a b
                · have hbub := HBU.out
                  rw [if_pos hab] at hbub
                  have HBU2 := Aside0.mk hbub
                  clear hbub
                  rcases hab with h1 | ⟨h1, h2⟩
                  · skip
                    have q1 : decide (a.f1 < b.f1) = true := decide_eq_true h1
                    go_wp2
                    go_quiet (fail)
                    go_wp2
                    go_region
                    go_wp2
                    go_roundw
                    case rel =>
                      have hd : Below wr.heap.size wr (wr.drewN (nq + 1)) := pw_below_drewN (Below.refl _ _) _
                      have o1 := own_set3 e52 (fun _ => rfl) (pw_own_below HOj.out hd) (j' + 1) (by have := HLX.out; omega) b (.int .i64 b.f0) (.int .i64 b.f1) (.int .i64 b.f2) rfl
                      have o2 := own_set3 e52 (fun _ => rfl) o1 j' (by rw [List.length_set]; have := HLX.out; omega) a (.int .i64 a.f0) (.int .i64 a.f1) (.int .i64 a.f2) rfl
                      rw [← HSW.out] at o2
                      exact ⟨j', swapG xs j', by omega, rfl, ⟨by rw [swapG_len]; exact HLX.out, (((((((below_step HBj.out hd).setCell hgw _).setCell hgw _).setCell hgw _).setCell hgw _).setCell hgw _).setCell hgw _), o2, HBU2.out⟩⟩
                    case measure => simp [intOf]
                  · skip
                    have q1 : decide (a.f1 < b.f1) = false := decide_eq_false (by omega)
                    have q2 : (a.f1 == b.f1) = true := by simpa using h1
                    have q3 : decide (a.f0 < b.f0) = true := decide_eq_true h2
                    clear h1
                    go_wp2
                    go_quiet (fail)
                    go_wp2
                    go_region
                    go_wp2
                    go_roundw
                    case rel =>
                      have hd : Below wr.heap.size wr (wr.drewN (nq + 1)) := pw_below_drewN (Below.refl _ _) _
                      have o1 := own_set3 e52 (fun _ => rfl) (pw_own_below HOj.out hd) (j' + 1) (by have := HLX.out; omega) b (.int .i64 b.f0) (.int .i64 b.f1) (.int .i64 b.f2) rfl
                      have o2 := own_set3 e52 (fun _ => rfl) o1 j' (by rw [List.length_set]; have := HLX.out; omega) a (.int .i64 a.f0) (.int .i64 a.f1) (.int .i64 a.f2) rfl
                      rw [← HSW.out] at o2
                      exact ⟨j', swapG xs j', by omega, rfl, ⟨by rw [swapG_len]; exact HLX.out, (((((((below_step HBj.out hd).setCell hgw _).setCell hgw _).setCell hgw _).setCell hgw _).setCell hgw _).setCell hgw _), o2, HBU2.out⟩⟩
                    case measure => simp [intOf]
                · have hxt := HBU.out
                  rw [if_neg hab] at hxt
                  have HXT := Aside0.mk hxt
                  clear hxt
                  have hcs : b.f1 < a.f1 ∨ (a.f1 = b.f1 ∧ ¬ a.f0 < b.f0) := by unfold ltG at hab; omega
                  clear hab
                  rcases hcs with h1 | ⟨h1, h2⟩
                  · skip
                    have q1 : decide (a.f1 < b.f1) = false := decide_eq_false (by omega)
                    have q2 : (a.f1 == b.f1) = false := by simp; omega
                    go_wp2
                    go_quiet (fail)
                    go_wp2
                    go_roundw
                    case rel =>
                      have hd : Below wr.heap.size wr (wr.drewN nq) := pw_below_drewN (Below.refl _ _) _
                      exact ⟨i + 1, by omega, by go_num, ⟨below_step HBj.out hd, by rw [HTG.out, ← HXT.out, HLX.out]; exact pw_own_below HOj.out hd⟩⟩
                    case measure => simp [intOf]; omega
                  · skip
                    have q1 : decide (a.f1 < b.f1) = false := decide_eq_false (by omega)
                    have q2 : (a.f1 == b.f1) = true := by simpa using h1
                    have q3 : decide (a.f0 < b.f0) = false := decide_eq_false h2
                    clear h1 h2
                    go_wp2
                    go_quiet (fail)
                    go_wp2
                    go_roundw
                    case rel =>
                      have hd : Below wr.heap.size wr (wr.drewN nq) := pw_below_drewN (Below.refl _ _) _
                      exact ⟨i + 1, by omega, by go_num, ⟨below_step HBj.out hd, by rw [HTG.out, ← HXT.out, HLX.out]; exact pw_own_below HOj.out hd⟩⟩
                    case measure => simp [intOf]; omega
              · obtain rfl : j = 0 := by omega
                have hxt := HBB.out
                rw [bubG] at hxt
                have HXT := Aside0.mk hxt
                have q0 : decide (0 < (0 : Nat)) = false := by decide
                clear hxt
                go_wp2
                go_quiet (fail)
                go_wp2
                go_roundw
                case rel =>
                  have hd : Below wr.heap.size wr (wr.drewN nq) := pw_below_drewN (Below.refl _ _) _
                  exact ⟨i + 1, by omega, by go_num, ⟨below_step HBj.out hd, by rw [HTG.out, ← HXT.out, HLX.out]; exact pw_own_below HOj.out hd⟩⟩
                case measure => simp [intOf]; omega
          · have hb : (p' == p) = false := by simpa using hpp
            have HNE := Aside0.mk hpp
            clear hpp
            go_wp2
            go_quiet (fail)
            go_wp2
            go_roundw
            case rel => exact ⟨k + 1, by omega, by omega, by go_num, ⟨below_step HBk.out (pw_below_drewN (Below.refl _ _) _), pw_own_below HOk.out (pw_below_drewN (Below.refl _ _) _), by rw [HSC.out]; unfold scanG; rw [List.find?_cons_of_neg (by simpa using HNE.out)]⟩⟩
            case measure => simp [intOf]; omega
        · obtain rfl : k = l.length := by omega
          go_wp2
          go_roundw
          case rel => exact ⟨i + 1, by omega, by go_num, ⟨HI.out.1, by have h := HI.out.2.2; unfold scanG at h; rw [List.drop_length] at h; simp only [List.find?_nil] at h; rw [HTG.out, h]; exact HI.out.2.1⟩⟩
          case measure => simp [intOf]; omega
    · obtain rfl : i = l.length := by omega
      go_wp2
      obtain ⟨Ao, co, hvo, hco, hCo⟩ := own_C52 HI.out.2
      subst hvo
      go_ret
      exact ⟨HI.out.1, Ao, co, rfl, hco, hCo⟩
end Go.Proofs.Ytdkfmbammdmohaa.PPolicyCosts

namespace Go.Proofs.Ytdkfmbammdmohaa.PPolicyCosts
open Go.RowKit Go.Proofs.YtdkfmbammdmohaaW.PrintWords Go.Proofs.YtdkfmbammdmohaaW.PrintLast Go.Proofs.YtdkfmbammdmohaaW.PrintMore
open Go.Proofs.YtdkfmbammdmohaaM Go.Proofs.YtdkfmbammdmohaaS
attribute [local go_sem] max2_int min2_int max_two min_two max_three min_three max_four min_four
set_option linter.unusedVariables false
set_option linter.unusedSimpArgs false

/-- three bytes that came in -/
structure S86 where
  f0 : Int
  f1 : Int
  f2 : Int
def z86 : S86 := ⟨0, 0, 0⟩
def k86 : Kd S86 := Kd.iso (Kd.pair (Kd.int .u8) (Kd.pair (Kd.int .u8) (Kd.int .u8))) (fun x : S86 => (x.f0, x.f1, x.f2))
theorem k86_open {w : World} {x : S86} {cs : List Value} (h : k86.K w x cs) : cs = [.int .u8 x.f0, .int .u8 x.f1, .int .u8 x.f2] := by
  obtain ⟨_, _, rfl, rfl, ⟨_, _, rfl, rfl, rfl⟩⟩ := h
  exact rfl
theorem k86_mk (w : World) (x : S86) : k86.K w x [.int .u8 x.f0, .int .u8 x.f1, .int .u8 x.f2] := ⟨[.int .u8 x.f0], [.int .u8 x.f1, .int .u8 x.f2], rfl, rfl, ⟨[.int .u8 x.f1], [.int .u8 x.f2], rfl, rfl, rfl⟩⟩
def rd_T86 (xs : List S86) (i : Int) : S86 := xs.getD i.toNat z86
theorem at_T86 {w : World} {A : Option Addr} {n : Nat} {xs : List S86} (h : Kd.C k86 w A n xs) (i : Int) (h0 : 0 ≤ i) (h1 : i < n) : ∃ ad, A = some ad ∧ w.cell? (ad.add (i.toNat * 3)) = some (.int .u8 (rd_T86 xs i).f0) ∧ w.cell? ⟨(ad.add (i.toNat * 3)).block, (ad.add (i.toNat * 3)).off + 1, none⟩ = some (.int .u8 (rd_T86 xs i).f1) ∧ w.cell? ⟨(ad.add (i.toNat * 3)).block, (ad.add (i.toNat * 3)).off + 2, none⟩ = some (.int .u8 (rd_T86 xs i).f2) := by
  obtain ⟨ad, c, e, _, hK, hc0⟩ := Kd.C_get h z86 i h0 h1
  have hc : ∀ j u, c[j]? = some u → w.cell? (ad.add (i.toNat * 3 + j)) = some u := hc0
  obtain rfl := k86_open hK
  exact ⟨ad, e, hc 0 _ rfl, by rw [← add_field _ _ 1 (by omega)]; exact hc 1 _ rfl, by rw [← add_field _ _ 2 (by omega)]; exact hc 2 _ rfl⟩

def ltU (a b : S73) : Prop := a.f1 < b.f1 ∨ (a.f1 = b.f1 ∧ a.f0 < b.f0)
instance (a b : S73) : Decidable (ltU a b) := by unfold ltU; exact inferInstance
def swapU (xs : List S73) (j : Nat) : List S73 := (xs.set (j + 1) (rd_T73 xs (j : Int))).set j (rd_T73 xs ((j + 1 : Nat) : Int))
theorem swapU_len (xs : List S73) (j : Nat) : (swapU xs j).length = xs.length := by simp [swapU]
/-- a use goes up to its place -/
def bubU : List S73 → Nat → List S73
  | xs, 0 => xs
  | xs, j + 1 => if ltU (rd_T73 xs ((j + 1 : Nat) : Int)) (rd_T73 xs (j : Int)) then bubU (swapU xs j) j else xs
theorem bubU_len : ∀ (j : Nat) (xs : List S73), (bubU xs j).length = xs.length
  | 0, xs => rfl
  | j + 1, xs => by
    rw [bubU]
    split
    · rw [bubU_len j, swapU_len]
    · rfl
/-- the trace so far, the ends of the last uses, the end -/
structure StU where
  l : List S73
  a0 : Int
  a1 : Int
  a2 : Int
  e : Int
def StU.last (s : StU) (p : Int) : Int := if p = 0 then s.a0 else if p = 1 then s.a1 else s.a2
/-- the use that some bytes tell -/
def useOf (s : StU) (x : S86) : S73 := ⟨x.f0 % 3, s.last (x.f0 % 3) + 1 + x.f1 % 6, s.last (x.f0 % 3) + 1 + x.f1 % 6 + 1 + x.f2 % 4⟩
def stepU (s : StU) (x : S86) : StU :=
  ⟨bubU (s.l ++ [useOf s x]) s.l.length, if x.f0 % 3 = 0 then (useOf s x).f2 else s.a0, if x.f0 % 3 = 1 then (useOf s x).f2 else s.a1, if x.f0 % 3 = 2 then (useOf s x).f2 else s.a2, mx s.e (useOf s x).f2⟩
def usesR (xs : List S86) : Nat → StU
  | 0 => ⟨[], 0, 0, 0, 0⟩
  | k + 1 => stepU (usesR xs k) (rd_T86 xs (k : Int))
theorem usesR_succ (xs : List S86) (k : Nat) : usesR xs (k + 1) = stepU (usesR xs k) (rd_T86 xs (k : Int)) := rfl
structure BdU (s : StU) (k : Nat) : Prop where
  len : s.l.length = k
  b0 : 0 ≤ s.a0 ∧ s.a0 ≤ 10 * k
  b1 : 0 ≤ s.a1 ∧ s.a1 ≤ 10 * k
  b2 : 0 ≤ s.a2 ∧ s.a2 ≤ 10 * k
  be : 0 ≤ s.e ∧ s.e ≤ 10 * k
theorem StU.last_bd {s : StU} {k : Nat} (h : BdU s k) (p : Int) : 0 ≤ s.last p ∧ s.last p ≤ 10 * k := by
  unfold StU.last
  have := h.b0
  have := h.b1
  have := h.b2
  split
  · omega
  · split <;> omega
theorem useOf_bd {s : StU} {k : Nat} (h : BdU s k) (x : S86) : 0 ≤ (useOf s x).f1 ∧ (useOf s x).f1 < (useOf s x).f2 ∧ (useOf s x).f2 ≤ 10 * k + 10 := by
  have := StU.last_bd h (x.f0 % 3)
  unfold useOf
  generalize s.last (x.f0 % 3) = m at *
  simp only
  omega
theorem stepU_bd {s : StU} {k : Nat} (h : BdU s k) (x : S86) : BdU (stepU s x) (k + 1) := by
  have hu := useOf_bd h x
  have h0 := h.b0
  have h1 := h.b1
  have h2 := h.b2
  have h3 := h.be
  unfold stepU
  generalize useOf s x = u at *
  refine ⟨by simp only; rw [bubU_len]; simp [h.len], ?_, ?_, ?_, ?_⟩
  · simp only; split <;> omega
  · simp only; split <;> omega
  · simp only; split <;> omega
  · simp only; unfold mx; split <;> omega
theorem usesR_bd (xs : List S86) : ∀ k, BdU (usesR xs k) k
  | 0 => ⟨rfl, by simp [usesR], by simp [usesR], by simp [usesR], by simp [usesR]⟩
  | k + 1 => stepU_bd (usesR_bd xs k) _
def Bytes3 (xs : List S86) : Prop := ∀ x ∈ xs, (0 ≤ x.f0 ∧ x.f0 < 256) ∧ (0 ≤ x.f1 ∧ x.f1 < 256) ∧ (0 ≤ x.f2 ∧ x.f2 < 256)
theorem rd86_is (l : List S86) (k : Nat) (h : k < l.length) : rd_T86 l (k : Int) = l[k] := by
  unfold rd_T86
  rw [Int.toNat_natCast, List.getD_eq_getElem?_getD, List.getElem?_eq_getElem h]
  rfl
def UsesPost (xs : List S86) (w : World) (e : Ending) (w' : World) : Prop :=
  Below w.heap.size w w' ∧ ∃ m A c, m ≤ xs.length ∧ m ≤ 8 ∧ (m = xs.length ∨ m = 8) ∧ e = .returned (.tuple #[.slice A m c, .int .i64 (usesR xs m).e]) ∧ m ≤ c ∧ Kd.C k73 w' A m (usesR xs m).l
def RU (w : World) (o1 o2 : Obj) (wr : World) : Prop := Below w.heap.size w wr ∧ wr.heap[w.heap.size]? = some o1 ∧ wr.heap[w.heap.size + 1]? = some o2
theorem RU.step {w : World} {o1 o2 : Obj} {wr wq : World} (h : RU w o1 o2 wr) (hb : Below wr.heap.size wr wq) : RU w o1 o2 wq := ⟨below_step h.1 hb, blk_below h.2.1 hb, blk_below h.2.2 hb⟩
theorem RU.set {w : World} {o1 o2 : Obj} {wr : World} (h : RU w o1 o2 wr) {g : Nat} (hg : w.heap.size + 2 ≤ g) (i : Nat) (v : Value) : RU w o1 o2 (wr.setCell ⟨g, i, none⟩ v) :=
  ⟨h.1.setCell (by show w.heap.size ≤ g; omega) v, (Below.heap_setCell wr ⟨g, i, none⟩ v _ (by show w.heap.size ≠ g; omega)).trans h.2.1, (Below.heap_setCell wr ⟨g, i, none⟩ v _ (by show w.heap.size + 1 ≠ g; omega)).trans h.2.2⟩
def U31 (xs : List S86) (Au : Option Addr) (nu cu : Nat) (hold win : Int) (k : Nat) (v4 : Value) (w wr : World) : Prop :=
  Below w.heap.size w wr ∧ wr.heap[w.heap.size]? = some (.cells #[.slice Au nu cu, .int .u8 hold, .int .u8 win] 44 (0, 0)) ∧ wr.heap[w.heap.size + 1]? = some (.cells #[.int .i64 (usesR xs k).a0, .int .i64 (usesR xs k).a1, .int .i64 (usesR xs k).a2] 112 (0, 0)) ∧
    wr.ownsRow (w.heap.size + 2) 73 3 v4 (usesR xs k).l.length ((usesR xs k).l.flatMap e73)

theorem C86_row {w : World} {A : Option Addr} {l : List S86} (h : Kd.C k86 w A l.length l) (hn : 0 < l.length) :
    ∃ b off, A = some ⟨b, off, none⟩ ∧ ∀ j : Nat, j < l.length → w.cell? ⟨b, off + j * 3, none⟩ = some (.int .u8 (rd_T86 l (j : Int)).f0) ∧ w.cell? ⟨b, off + j * 3 + 1, none⟩ = some (.int .u8 (rd_T86 l (j : Int)).f1) ∧ w.cell? ⟨b, off + j * 3 + 2, none⟩ = some (.int .u8 (rd_T86 l (j : Int)).f2) := by
  obtain ⟨ad, rfl, c0, _, _⟩ := at_T86 h 0 (by omega) (by omega)
  obtain ⟨b, off, sp⟩ := ad
  have hsp : sp = none := by
    have h0 : w.cell? ⟨b, off, sp⟩ ≠ none := by
      have : w.cell? ⟨b, off, sp⟩ = some _ := c0
      rw [this]; simp
    unfold World.cell? at h0
    cases sp with
    | none => rfl
    | some s => exfalso; apply h0; split <;> simp
  subst hsp
  refine ⟨b, off, rfl, fun j hj => ?_⟩
  obtain ⟨ad, e, d0, d1, d2⟩ := at_T86 h (j : Int) (by omega) (by omega)
  injection e with e
  subst e
  rw [Int.toNat_natCast] at d0 d1 d2
  have ea : (⟨b, off, none⟩ : Addr).add (j * 3) = ⟨b, off + j * 3, none⟩ := by unfold Addr.add; split <;> simp_all
  rw [ea] at d0 d1 d2
  exact ⟨d0, d1, d2⟩
theorem own_some {w : World} {base : Nat} {e : TypeId} {size n : Nat} {v : Value} {xs : List Value} (h : w.ownsRow base e size v n xs) (hx : ¬ n = 0) : ∃ g cap, v = .slice (some ⟨g, 0, none⟩) n cap := by
  rcases h.2 with ⟨_, h2⟩ | ⟨g, cap, cur, rfl, _⟩
  · exact absurd h2 hx
  · exact ⟨g, cap, rfl⟩
theorem below_step_mono {B C : Nat} {w W W' : World} (h : Below B w W) (h2 : Below C W W') (hc : B ≤ C) (hs : B ≤ W.heap.size) : Below B w W' := h.trans (h2.mono hc)
theorem own_C73 {w : World} {base : Nat} {gv : Value} {gs : List S73} (h : w.ownsRow base 73 3 gv gs.length (gs.flatMap e73)) : ∃ A c, gv = .slice A gs.length c ∧ gs.length ≤ c ∧ Kd.C k73 w A gs.length gs := by
  have hr : Reps (k73.K w) 3 gs (gs.flatMap e73) := by
    have := reps_flat (R := k73.K w) (k := 3) e73 (fun x => k73_mk w x) (fun _ => rfl) gs [] (Reps.none _ _)
    simpa using this
  obtain ⟨A, c, rfl, hrow⟩ := own_reads_row h hr rfl
  exact ⟨A, c, rfl, own_le h, hrow⟩
/-- a state of an array of three numbers, one of them set -/
theorem arr3_cell {w : World} {B T : Nat} {a0 a1 a2 : Int} (h : w.heap[B]? = some (.cells #[.int .i64 a0, .int .i64 a1, .int .i64 a2] T (0, 0))) (p : Nat) (hp : p < 3) : w.cell? ⟨B, p, none⟩ = some (.int .i64 (if (p : Int) = 0 then a0 else if (p : Int) = 1 then a1 else a2)) := by
  rw [blk_cell h p]
  match p, hp with
  | 0, _ => rfl
  | 1, _ => rfl
  | 2, _ => rfl
theorem arr3_set {w : World} {B T : Nat} {a0 a1 a2 : Int} (h : w.heap[B]? = some (.cells #[.int .i64 a0, .int .i64 a1, .int .i64 a2] T (0, 0))) (p : Nat) (hp : p < 3) (v : Int) :
    (w.setCell ⟨B, p, none⟩ (.int .i64 v)).heap[B]? = some (.cells #[.int .i64 (if (p : Int) = 0 then v else a0), .int .i64 (if (p : Int) = 1 then v else a1), .int .i64 (if (p : Int) = 2 then v else a2)] T (0, 0)) := by
  have := blk_set h p (.int .i64 v)
  match p, hp with
  | 0, _ => exact this
  | 1, _ => exact this
  | 2, _ => exact this

set_option maxRecDepth 100000 in
set_option maxHeartbeats 4000000 in
theorem uses31_any (Au : Option Addr) (cu : Nat) (xs : List S86) (hold win : Int) (w : World) (hC : Kd.C k86 w Au xs.length xs) (hc : xs.length ≤ cu) (hb : Bytes3 xs) :
    Calls Try.prog 34 #[.agg #[.slice Au xs.length cu, .int .u8 hold, .int .u8 win]] w (UsesPost xs w) := by
  have HC := Aside0.mk hC
  have HBY := Aside0.mk hb
  have hxl : xs.length ≤ 9223372036854775807 := hC.2.1
  clear hC hb
  go_enter Try.func34, Try.ntmps34
  go_wp2
  go_loopw [4, 6, 7] (fun v4 v6 v7 wr => ∃ k : Nat, k ≤ xs.length ∧ k ≤ 8 ∧ v7 = .int .i64 k ∧ v6 = .int .i64 (usesR xs k).e ∧ Aside0 (U31 xs Au xs.length cu hold win k v4 w wr)) (fun v4 v6 v7 wr => 8 - (intOf v7).toNat)
  case atStart => exact ⟨0, Nat.zero_le _, Nat.zero_le _, rfl, rfl, ⟨below_alloc (below_alloc (Below.refl _ _) _) _, blk_alloc (blk_new w _) _, by have := blk_new (w.alloc (.cells #[.slice Au xs.length cu, .int .u8 hold, .int .u8 win] 44)) (.cells #[.int .i64 0, .int .i64 0, .int .i64 0] 112); rw [World.size_alloc] at this; exact this, own_nil _ _ _ _⟩⟩
  case round =>
    obtain ⟨k, hk, hk8, rfl, rfl, HI⟩ := hrel
    have hbd := usesR_bd xs k
    by_cases hlt : k < xs.length
    · by_cases hl8 : k < 8
      · obtain ⟨h1, h2, h3, h4⟩ := HI.out
        obtain ⟨bx, ox, rfl, hrow⟩ := C86_row (Kd.C_below HC.out h1) (by omega)
        obtain ⟨hx0, hx1, hx2⟩ := hrow k hlt
        have hby := HBY.out (xs[k]) (List.getElem_mem hlt)
        rw [← rd86_is xs k hlt] at hby
        have hsu := usesR_succ xs k
        have hlb := StU.last_bd hbd ((rd_T86 xs (k : Int)).f0 % 3)
        have hub := useOf_bd hbd (rd_T86 xs (k : Int))
        obtain ⟨b1, b2, b3, b4, b5⟩ := hbd
        generalize rd_T86 xs (k : Int) = x at *
        generalize usesR xs k = st at *
        have HSU := Aside0.mk hsu
        obtain ⟨⟨q0, q1⟩, ⟨q2, q3⟩, q4, q5⟩ := hby
        obtain ⟨pn, hpn, hp3⟩ : ∃ pn : Nat, x.f0 % 3 = (pn : Int) ∧ pn < 3 := ⟨(x.f0 % 3).toNat, by omega, by omega⟩
        have cB := arr3_cell h3 pn hp3
        have fB : wr.frozen? ⟨w.heap.size + 1, pn, none⟩ = false := blk_frozen h3 pn
        have huo : useOf st x = ⟨(pn : Int), st.last pn + 1 + x.f1 % 6, st.last pn + 1 + x.f1 % 6 + 1 + x.f2 % 4⟩ := by unfold useOf; rw [hpn]
        rw [hpn] at hlb
        rw [huo] at hub
        have hla : (if (pn : Int) = 0 then st.a0 else if (pn : Int) = 1 then st.a1 else st.a2) = st.last pn := rfl
        rw [hla] at cB
        have HUO := Aside0.mk huo
        have HPN := Aside0.mk hpn
        have y0 : wr.cell? ⟨w.heap.size, 0, none⟩ = some (.slice (some ⟨bx, ox, none⟩) xs.length cu) := (blk_cell h2 0).trans rfl
        have hz1 : w.heap.size < wr.heap.size := blk_lt h2
        have hz2 : w.heap.size + 1 < wr.heap.size := blk_lt h3
        have H1 := Aside0.mk h1
        have H2 := Aside0.mk h2
        have H3 := Aside0.mk h3
        have H4 := Aside0.mk h4
        generalize st.last pn = m at *
        clear HI h1 h2 h3 h4 hrow hsu huo hla
        simp only at hub
        have r1 : 0 ≤ x.f1 % 6 ∧ x.f1 % 6 < 6 := by omega
        have r2 : 0 ≤ x.f2 % 4 ∧ x.f2 % 4 < 4 := by omega
        have hll : st.l.length ≤ 8 := by omega
        by_cases hmx : st.e < (m + 1 + x.f1 % 6 + 1 + x.f2 % 4)
        all_goals
          go_wp2
          go_quiet (fail)
          have hd : Below wr.heap.size wr (wr.drewN nq) := pw_below_drewN (Below.refl _ _) _
          have HOW := Aside0.mk (own_setCell (pw_own_below H4.out hd) (p := ⟨w.heap.size + 1, pn, none⟩) (fun h => by have hh : w.heap.size + 2 ≤ w.heap.size + 1 := own_base H4.out _ h.symm; omega) (.int .i64 (m + 1 + x.f1 % 6 + 1 + x.f2 % 4)))
          have HW1 := Aside0.mk ((below_step H1.out hd).setCell (p := ⟨w.heap.size + 1, pn, none⟩) (by simp) (.int .i64 (m + 1 + x.f1 % 6 + 1 + x.f2 % 4)))
          have HW2 := Aside0.mk (blk_far (blk_below H2.out hd) (p := ⟨w.heap.size + 1, pn, none⟩) (by simp) (.int .i64 (m + 1 + x.f1 % 6 + 1 + x.f2 % 4)))
          have HW3 := Aside0.mk (arr3_set (blk_below H3.out hd) pn hp3 (m + 1 + x.f1 % 6 + 1 + x.f2 % 4))
          have hWz : ((wr.drewN nq).setCell ⟨w.heap.size + 1, pn, none⟩ (.int .i64 (m + 1 + x.f1 % 6 + 1 + x.f2 % 4))).heap.size = wr.heap.size := by simp
          have HWZ := Aside0.mk hWz
          clear hd hWz
          go_wp2_with (at_builtin; go_loud (refine wp_appM (w0 := ((wr.drewN nq).setCell ⟨w.heap.size + 1, pn, none⟩ (.int .i64 (m + 1 + x.f1 % 6 + 1 + x.f2 % 4)))) (W := ((wr.drewN nq).setCell ⟨w.heap.size + 1, pn, none⟩ (.int .i64 (m + 1 + x.f1 % 6 + 1 + x.f2 % 4)))) (w.heap.size + 2) 1 (by rfl) _ _ 22 73 _ 3 24 (by rfl) Try.underlying22 info73 (by rfl) (by omega) (by omega) _ st.l.length (st.l.flatMap e73) [.int .i64 pn, .int .i64 (m + 1 + x.f1 % 6), .int .i64 (m + 1 + x.f1 % 6 + 1 + x.f2 % 4)] (by rfl) (by rw [HWZ.out]; rfl) (by rfl) (by intro y hy; simp at hy; rcases hy with rfl | rfl | rfl <;> rfl) HOW.out (Below.refl _ _) (by rw [HWZ.out]; omega) (by omega) ?_); intro v1 w4 hown hbel hgr hat; obtain ⟨gg, cap, rfl⟩ := own_some hown (by omega))
          have HB4 := Aside0.mk (below_step_mono HW1.out hbel (by omega) (by rw [HWZ.out]; exact Nat.le_trans (by omega) H1.out.size))
          have HX2 := Aside0.mk ((hbel.block w.heap.size (by omega)).trans HW2.out)
          have HX3 := Aside0.mk ((hbel.block (w.heap.size + 1) (by omega)).trans HW3.out)
          have HO4 : Aside0 (w4.ownsRow (w.heap.size + 2) 73 3 (.slice (some ⟨gg, 0, none⟩) (st.l.length + 1) cap) (st.l.length + 1) ((st.l ++ [(⟨(pn : Int), (m + 1 + x.f1 % 6), (m + 1 + x.f1 % 6 + 1 + x.f2 % 4)⟩ : S73)]).flatMap e73)) := ⟨by rw [List.flatMap_append]; exact hown⟩
          have HTG : Aside0 ((usesR xs (k + 1)).l = bubU (st.l ++ [(⟨(pn : Int), (m + 1 + x.f1 % 6), (m + 1 + x.f1 % 6 + 1 + x.f2 % 4)⟩ : S73)]) st.l.length) := ⟨by rw [HSU.out]; unfold stepU; rw [HUO.out]⟩
          have hne := Aside0.mk (show (st.l ++ [(⟨(pn : Int), (m + 1 + x.f1 % 6), (m + 1 + x.f1 % 6 + 1 + x.f2 % 4)⟩ : S73)]).length = st.l.length + 1 by simp)
          clear hown hbel hgr hat HW1 HW2 HW3 HOW HWZ
          generalize st.l ++ [(⟨(pn : Int), (m + 1 + x.f1 % 6), (m + 1 + x.f1 % 6 + 1 + x.f2 % 4)⟩ : S73)] = xs0 at *
          obtain ⟨tg, htg⟩ : ∃ tg, (usesR xs (k + 1)).l = tg := ⟨_, rfl⟩
          have HTG2 := Aside0.mk htg
          have HST := Aside0.mk (show bubU xs0 st.l.length = tg by rw [← htg, HTG.out])
          clear htg HTG
          have HA : Aside0 ((usesR xs (k + 1)).a0 = (if (pn : Int) = 0 then (m + 1 + x.f1 % 6 + 1 + x.f2 % 4) else st.a0) ∧ (usesR xs (k + 1)).a1 = (if (pn : Int) = 1 then (m + 1 + x.f1 % 6 + 1 + x.f2 % 4) else st.a1) ∧ (usesR xs (k + 1)).a2 = (if (pn : Int) = 2 then (m + 1 + x.f1 % 6 + 1 + x.f2 % 4) else st.a2) ∧ (usesR xs (k + 1)).e = mx st.e (m + 1 + x.f1 % 6 + 1 + x.f2 % 4)) := by
            refine ⟨?_⟩
            rw [HSU.out]
            unfold stepU
            rw [HPN.out, HUO.out]
            exact ⟨rfl, rfl, rfl, rfl⟩
          obtain ⟨o1, ho1⟩ : ∃ o1 : Obj, Obj.cells #[.slice (some ⟨bx, ox, none⟩) xs.length cu, .int .u8 hold, .int .u8 win] 44 (0, 0) = o1 := ⟨_, rfl⟩
          obtain ⟨o2, ho2⟩ : ∃ o2 : Obj, Obj.cells #[.int .i64 (if (pn : Int) = 0 then (m + 1 + x.f1 % 6 + 1 + x.f2 % 4) else st.a0), .int .i64 (if (pn : Int) = 1 then (m + 1 + x.f1 % 6 + 1 + x.f2 % 4) else st.a1), .int .i64 (if (pn : Int) = 2 then (m + 1 + x.f1 % 6 + 1 + x.f2 % 4) else st.a2)] 112 (0, 0) = o2 := ⟨_, rfl⟩
          have hru : RU w o1 o2 w4 := ⟨HB4.out, by rw [← ho1]; exact HX2.out, by rw [← ho2]; exact HX3.out⟩
          have HRU := Aside0.mk hru
          have HO1 := Aside0.mk ho1
          have HO2 := Aside0.mk ho2
          clear hru ho1 ho2 HB4 HX2 HX3 y0 cB fB hx0 hx1 hx2
          go_simp
          go_wp2
          go_loopw [11] (fun v11 wr => ∃ (j : Nat) (ys : List S73), j ≤ st.l.length ∧ v11 = .int .i64 j ∧ Aside0 (ys.length = st.l.length + 1 ∧ RU w o1 o2 wr ∧ wr.ownsRow (w.heap.size + 2) 73 3 (.slice (some ⟨gg, 0, none⟩) (st.l.length + 1) cap) (st.l.length + 1) (ys.flatMap e73) ∧ bubU ys j = tg)) (fun v11 wr => (intOf v11).toNat)
          case atStart => exact ⟨st.l.length, xs0, Nat.le_refl _, by go_num, ⟨hne.out, HRU.out, HO4.out, HST.out⟩⟩
          case round =>
            obtain ⟨j, ys, hj, rfl, HI⟩ := hrel
            have HBj := Aside0.mk HI.out.2.1
            have HOj := Aside0.mk HI.out.2.2.1
            have HBB := Aside0.mk HI.out.2.2.2
            have HLX := Aside0.mk HI.out.1
            clear HI
            have hgw : w.heap.size + 2 ≤ gg := own_base HOj.out gg rfl
            have hgz : gg < wr.heap.size := own_lt HOj.out gg rfl
            by_cases hj0 : 0 < j
            · have c0 : wr.cell? ⟨gg, j * 3, none⟩ = some (.int .i64 (rd_T73 ys (j : Int)).f0) := by
                have := own_cells e73 (fun _ => rfl) HOj.out HLX.out.symm j (by have := HLX.out; omega) 0 (by omega)
                rw [← rd73x_is ys j (by have := HLX.out; omega)] at this
                exact this
              have c1 : wr.cell? ⟨gg, j * 3 + 1, none⟩ = some (.int .i64 (rd_T73 ys (j : Int)).f1) := by
                have := own_cells e73 (fun _ => rfl) HOj.out HLX.out.symm j (by have := HLX.out; omega) 1 (by omega)
                rw [← rd73x_is ys j (by have := HLX.out; omega)] at this
                exact this
              have c2 : wr.cell? ⟨gg, j * 3 + 2, none⟩ = some (.int .i64 (rd_T73 ys (j : Int)).f2) := by
                have := own_cells e73 (fun _ => rfl) HOj.out HLX.out.symm j (by have := HLX.out; omega) 2 (by omega)
                rw [← rd73x_is ys j (by have := HLX.out; omega)] at this
                exact this
              have d0 : wr.cell? ⟨gg, (j - 1) * 3, none⟩ = some (.int .i64 (rd_T73 ys ((j - 1 : Nat) : Int)).f0) := by
                have := own_cells e73 (fun _ => rfl) HOj.out HLX.out.symm (j - 1) (by have := HLX.out; omega) 0 (by omega)
                rw [← rd73x_is ys (j - 1) (by have := HLX.out; omega)] at this
                exact this
              have d1 : wr.cell? ⟨gg, (j - 1) * 3 + 1, none⟩ = some (.int .i64 (rd_T73 ys ((j - 1 : Nat) : Int)).f1) := by
                have := own_cells e73 (fun _ => rfl) HOj.out HLX.out.symm (j - 1) (by have := HLX.out; omega) 1 (by omega)
                rw [← rd73x_is ys (j - 1) (by have := HLX.out; omega)] at this
                exact this
              have d2 : wr.cell? ⟨gg, (j - 1) * 3 + 2, none⟩ = some (.int .i64 (rd_T73 ys ((j - 1 : Nat) : Int)).f2) := by
                have := own_cells e73 (fun _ => rfl) HOj.out HLX.out.symm (j - 1) (by have := HLX.out; omega) 2 (by omega)
                rw [← rd73x_is ys (j - 1) (by have := HLX.out; omega)] at this
                exact this
              have f0 : wr.frozen? ⟨gg, j * 3, none⟩ = false := HOj.out.frozenAt _
              have f1 : wr.frozen? ⟨gg, (j - 1) * 3, none⟩ = false := HOj.out.frozenAt _
              have f2 : wr.frozen? ⟨gg, j * 3 + 1, none⟩ = false := HOj.out.frozenAt _
              have f3 : wr.frozen? ⟨gg, (j - 1) * 3 + 1, none⟩ = false := HOj.out.frozenAt _
              have f4 : wr.frozen? ⟨gg, j * 3 + 2, none⟩ = false := HOj.out.frozenAt _
              have f5 : wr.frozen? ⟨gg, (j - 1) * 3 + 2, none⟩ = false := HOj.out.frozenAt _
              obtain ⟨j', rfl⟩ : ∃ j', j = j' + 1 := ⟨j - 1, by omega⟩
              have hbub := HBB.out
              rw [bubU] at hbub
              have ej : j' + 1 - 1 = j' := by omega
              rw [ej] at d0 d1 d2 f1 f3 f5
              have HBU := Aside0.mk hbub
              clear hbub ej
              have hsw : swapU ys j' = (ys.set (j' + 1) (rd_T73 ys (j' : Int))).set j' (rd_T73 ys ((j' + 1 : Nat) : Int)) := rfl
              have HSW := Aside0.mk hsw
              clear hsw
              generalize rd_T73 ys ((j' + 1 : Nat) : Int) = a at *
              generalize rd_T73 ys (j' : Int) = b at *
              by_cases hab : ltU a b
              · have hbub := HBU.out
                rw [if_pos hab] at hbub
                have HBU2 := Aside0.mk hbub
                clear hbub
                rcases hab with h1 | ⟨h1, h2⟩
                · skip
                  have q1 : decide (a.f1 < b.f1) = true := decide_eq_true h1
                  go_wp2
                  go_quiet (fail)
                  go_wp2
                  go_region
                  go_wp2
                  go_roundw
                  case rel =>
                    have hd : Below wr.heap.size wr (wr.drewN (nq + 1)) := pw_below_drewN (Below.refl _ _) _
                    have o1 := own_set3 e73 (fun _ => rfl) (pw_own_below HOj.out hd) (j' + 1) (by have := HLX.out; omega) b (.int .i64 b.f0) (.int .i64 b.f1) (.int .i64 b.f2) rfl
                    have o2 := own_set3 e73 (fun _ => rfl) o1 j' (by rw [List.length_set]; have := HLX.out; omega) a (.int .i64 a.f0) (.int .i64 a.f1) (.int .i64 a.f2) rfl
                    rw [← HSW.out] at o2
                    exact ⟨j', swapU ys j', by omega, rfl, ⟨by rw [swapU_len]; exact HLX.out, ((((((HBj.out.step hd).set hgw _ _).set hgw _ _).set hgw _ _).set hgw _ _).set hgw _ _).set hgw _ _, o2, HBU2.out⟩⟩
                  case measure => simp [intOf]
                · skip
                  have q1 : decide (a.f1 < b.f1) = false := decide_eq_false (by omega)
                  have q2 : (a.f1 == b.f1) = true := by simpa using h1
                  have q3 : decide (a.f0 < b.f0) = true := decide_eq_true h2
                  clear h1
                  go_wp2
                  go_quiet (fail)
                  go_wp2
                  go_region
                  go_wp2
                  go_roundw
                  case rel =>
                    have hd : Below wr.heap.size wr (wr.drewN (nq + 1)) := pw_below_drewN (Below.refl _ _) _
                    have o1 := own_set3 e73 (fun _ => rfl) (pw_own_below HOj.out hd) (j' + 1) (by have := HLX.out; omega) b (.int .i64 b.f0) (.int .i64 b.f1) (.int .i64 b.f2) rfl
                    have o2 := own_set3 e73 (fun _ => rfl) o1 j' (by rw [List.length_set]; have := HLX.out; omega) a (.int .i64 a.f0) (.int .i64 a.f1) (.int .i64 a.f2) rfl
                    rw [← HSW.out] at o2
                    exact ⟨j', swapU ys j', by omega, rfl, ⟨by rw [swapU_len]; exact HLX.out, ((((((HBj.out.step hd).set hgw _ _).set hgw _ _).set hgw _ _).set hgw _ _).set hgw _ _).set hgw _ _, o2, HBU2.out⟩⟩
                  case measure => simp [intOf]
              · have hxt := HBU.out
                rw [if_neg hab] at hxt
                have HXT := Aside0.mk hxt
                clear hxt
                have hcs : b.f1 < a.f1 ∨ (a.f1 = b.f1 ∧ ¬ a.f0 < b.f0) := by unfold ltU at hab; omega
                clear hab
                rcases hcs with h1 | ⟨h1, h2⟩
                · skip
                  have q1 : decide (a.f1 < b.f1) = false := decide_eq_false (by omega)
                  have q2 : (a.f1 == b.f1) = false := by simp; omega
                  go_wp2
                  go_quiet (fail)
                  go_wp2
                  go_roundw
                  case rel =>
                    have hd : Below wr.heap.size wr (wr.drewN nq) := pw_below_drewN (Below.refl _ _) _
                    have hr := HBj.out.step hd
                    exact ⟨k + 1, by omega, by omega, by go_num, by rw [HA.out.2.2.2]; congr 1; unfold mx; split <;> omega, ⟨hr.1, by rw [HO1.out]; exact hr.2.1, by rw [HA.out.1, HA.out.2.1, HA.out.2.2.1, HO2.out]; exact hr.2.2, by rw [HTG2.out, ← HXT.out, HLX.out]; have h := pw_own_below HOj.out hd; rw [b1] at h ⊢; exact h⟩⟩
                  case measure => simp [intOf]; omega
                · skip
                  have q1 : decide (a.f1 < b.f1) = false := decide_eq_false (by omega)
                  have q2 : (a.f1 == b.f1) = true := by simpa using h1
                  have q3 : decide (a.f0 < b.f0) = false := decide_eq_false h2
                  clear h1 h2
                  go_wp2
                  go_quiet (fail)
                  go_wp2
                  go_roundw
                  case rel =>
                    have hd : Below wr.heap.size wr (wr.drewN nq) := pw_below_drewN (Below.refl _ _) _
                    have hr := HBj.out.step hd
                    exact ⟨k + 1, by omega, by omega, by go_num, by rw [HA.out.2.2.2]; congr 1; unfold mx; split <;> omega, ⟨hr.1, by rw [HO1.out]; exact hr.2.1, by rw [HA.out.1, HA.out.2.1, HA.out.2.2.1, HO2.out]; exact hr.2.2, by rw [HTG2.out, ← HXT.out, HLX.out]; have h := pw_own_below HOj.out hd; rw [b1] at h ⊢; exact h⟩⟩
                  case measure => simp [intOf]; omega
            · obtain rfl : j = 0 := by omega
              have hxt := HBB.out
              rw [bubU] at hxt
              have HXT := Aside0.mk hxt
              have q0 : decide (0 < (0 : Nat)) = false := by decide
              clear hxt
              go_wp2
              go_quiet (fail)
              go_wp2
              go_roundw
              case rel =>
                have hd : Below wr.heap.size wr (wr.drewN nq) := pw_below_drewN (Below.refl _ _) _
                have hr := HBj.out.step hd
                exact ⟨k + 1, by omega, by omega, by go_num, by rw [HA.out.2.2.2]; congr 1; unfold mx; split <;> omega, ⟨hr.1, by rw [HO1.out]; exact hr.2.1, by rw [HA.out.1, HA.out.2.1, HA.out.2.2.1, HO2.out]; exact hr.2.2, by rw [HTG2.out, ← HXT.out, HLX.out]; have h := pw_own_below HOj.out hd; rw [b1] at h ⊢; exact h⟩⟩
              case measure => simp [intOf]; omega
      · obtain rfl : k = 8 := by omega
        obtain ⟨h1, h2, h3, h4⟩ := HI.out
        have hlen := hbd.len
        obtain ⟨Ao, co, hvo, hco, hCo⟩ := own_C73 h4
        rw [hlen] at hvo hco hCo
        subst hvo
        have y0 : wr.cell? ⟨w.heap.size, 0, none⟩ = some (.slice Au xs.length cu) := (blk_cell h2 0).trans rfl
        have hz1 : w.heap.size < wr.heap.size := blk_lt h2
        have HH := Aside0.mk h1
        have HCo := Aside0.mk hCo
        clear HI h1 h2 h3 h4 hCo hlen hbd
        go_wp2
        go_ret2
        exact ⟨HH.out, 8, Ao, co, by omega, by omega, .inr rfl, rfl, hco, HCo.out⟩
    · obtain rfl : k = xs.length := by omega
      obtain ⟨h1, h2, h3, h4⟩ := HI.out
      have hlen := hbd.len
      obtain ⟨Ao, co, hvo, hco, hCo⟩ := own_C73 h4
      rw [hlen] at hvo hco hCo
      subst hvo
      have y0 : wr.cell? ⟨w.heap.size, 0, none⟩ = some (.slice Au xs.length cu) := (blk_cell h2 0).trans rfl
      have hz1 : w.heap.size < wr.heap.size := blk_lt h2
      have HH := Aside0.mk h1
      have HCo := Aside0.mk hCo
      clear HI h1 h2 h3 h4 hCo hlen hbd
      go_wp2
      go_ret2
      exact ⟨HH.out, xs.length, Ao, co, by omega, by omega, .inl rfl, rfl, hco, HCo.out⟩
end Go.Proofs.Ytdkfmbammdmohaa.PPolicyCosts

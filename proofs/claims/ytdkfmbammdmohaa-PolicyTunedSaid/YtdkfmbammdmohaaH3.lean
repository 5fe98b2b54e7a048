/- P31.6 in plain words: with the age win / hold, PyAge costs at most twice as much as Least. -/
import Derived.Test.YtdkfmbammdmohaaG4
namespace Go.Proofs.Ytdkfmbammdmohaa.PPolicyCosts
open Go.RowKit Go.Proofs.YtdkfmbammdmohaaW.PrintWords Go.Proofs.YtdkfmbammdmohaaW.PrintLast Go.Proofs.YtdkfmbammdmohaaW.PrintMore
open Go.Proofs.YtdkfmbammdmohaaM Go.Proofs.YtdkfmbammdmohaaS
set_option linter.unusedVariables false
set_option linter.unusedSimpArgs false

/-- what a gap costs at best -/
def bestC (hold win : Int) (g : S52) : Int := mn win ((g.f2 - g.f1) * hold)
def sumB (hold win : Int) (gs : List S52) : Int := (gs.map (bestC hold win)).sum

theorem bestC_bd {hold win : Int} {g : S52} (hg : okG g) (h0 : 0 ≤ hold) (h1 : hold ≤ 1000) (w0 : 0 ≤ win) (w1 : win ≤ 1000000000) : 0 ≤ bestC hold win g ∧ bestC hold win g ≤ 1000000000 := by
  obtain ⟨g0, g1, g2⟩ := hg
  have := mul_bd (a := g.f2 - g.f1) (b := hold) (A := 1000000000) (B := 1000) (by omega) (by omega) h0 h1
  unfold bestC mn
  split <;> omega
theorem sav_is {hold win : Int} {g : S52} (hg : okG g) (h0 : 0 ≤ hold) (h1 : hold ≤ 1000) (w0 : 0 ≤ win) (w1 : win ≤ 1000000000) : savW hold win g = win - (g.f2 - g.f1) * hold := by
  obtain ⟨g0, g1, g2⟩ := hg
  have := mul_bd (a := g.f2 - g.f1) (b := hold) (A := 1000000000) (B := 1000) (by omega) (by omega) h0 h1
  unfold savW
  rw [IntWalk.wrap64_in (g.f2 - g.f1) (by omega)]
  rw [IntWalk.wrap64_in ((g.f2 - g.f1) * hold) (by omega)]
  rw [IntWalk.wrap64_in _ (by omega)]
theorem sumB_bd {hold win : Int} (h0 : 0 ≤ hold) (h1 : hold ≤ 1000) (w0 : 0 ≤ win) (w1 : win ≤ 1000000000) : ∀ (gs : List S52), (∀ g ∈ gs, okG g) → 0 ≤ sumB hold win gs ∧ sumB hold win gs ≤ gs.length * win
  | [], _ => by simp [sumB]
  | g :: gs, h => by
    have ih := sumB_bd h0 h1 w0 w1 gs (fun x hx => h x (List.mem_cons_of_mem _ hx))
    have hb := bestC_bd (h g (List.mem_cons_self ..)) h0 h1 w0 w1
    have hb2 : bestC hold win g ≤ win := by unfold bestC mn; split <;> omega
    simp only [sumB, List.map_cons, List.sum_cons, List.length_cons] at ih ⊢
    have : ((gs.length + 1 : Nat) : Int) * win = gs.length * win + win := by rw [Int.natCast_add, Int.add_mul]; omega
    omega
theorem rd52 (gs : List S52) (k : Nat) (h : k < gs.length) : rd_T52 gs (k : Int) = gs[k] := by
  unfold rd_T52
  rw [Int.toNat_natCast, List.getD_eq_getElem?_getD, List.getElem?_eq_getElem h]
  rfl
theorem sumB_snoc (hold win : Int) (gs : List S52) (g : S52) : sumB hold win (gs ++ [g]) = sumB hold win gs + bestC hold win g := by simp [sumB]
theorem leastR_is {hold win : Int} (n : Nat) (hn : n ≤ 200) (gs : List S52) (hgs : ∀ g ∈ gs, okG g) (hl : gs.length ≤ n) (h0 : 0 ≤ hold) (h1 : hold ≤ 1000) (w0 : 0 ≤ win) (w1 : win ≤ 1000000000) : ∀ k, k ≤ gs.length →
    (leastR hold win (n * win) gs k).1 = (n : Int) * win - k * win + sumB hold win (gs.take k)
  | 0, _ => by simp [leastR, sumB]
  | k + 1, hk => by
    have ih := leastR_is n hn gs hgs hl h0 h1 w0 w1 k (by omega)
    have hg := hgs gs[k] (List.getElem_mem (by omega))
    rw [leastR_succ, rd52 gs k (by omega), sav_is hg h0 h1 w0 w1, take_snoc' gs k (by omega), sumB_snoc]
    have hsb := sumB_bd h0 h1 w0 w1 (gs.take k) (fun g hg => hgs g (List.mem_of_mem_take hg))
    have hm1 := mul_bd (a := (n : Int)) (b := win) (A := 200) (B := 1000000000) (by omega) (by omega) w0 w1
    have hm2 := mul_bd (a := (k : Int)) (b := win) (A := 200) (B := 1000000000) (by omega) (by omega) w0 w1
    have hlt : ((gs.take k).length : Int) * win ≤ 200 * 1000000000 := (mul_bd (a := ((gs.take k).length : Int)) (b := win) (A := 200) (B := 1000000000) (by omega) (by rw [List.length_take]; omega) w0 w1).2
    have hk1 : ((k + 1 : Nat) : Int) * win = k * win + win := by rw [Int.natCast_add, Int.add_mul]; omega
    have hbb := bestC_bd hg h0 h1 w0 w1
    unfold bestC mn at *
    split
    · rw [IntWalk.wrap64_in _ (by simp only [ih]; omega), ih, hk1]
      split <;> omega
    · rw [ih, hk1]
      split <;> omega
theorem gapsOf_cnt (l : List S73) : (gapsOf l).length + cntOf l = l.length := by
  refine snoc_ind (P := fun l => (gapsOf l).length + cntOf l = l.length) rfl ?_ l
  intro l u ih
  rw [gapsOf_snoc, cntOf_snoc, List.length_append, List.length_append]
  have h1 : ([u] : List S73).length = 1 := rfl
  unfold gapOf
  cases lastOf l u.f0 with
  | none => simp; omega
  | some t => simp; omega
theorem keysOf_len (l : List S73) : (keysOf l).length = cntOf l := by
  refine snoc_ind (P := fun l => (keysOf l).length = cntOf l) rfl ?_ l
  intro l u ih
  rw [keysOf_snoc, cntOf_snoc, List.length_append, ih]
  unfold keyOf
  cases (lastOf l u.f0).isSome <;> simp
theorem sumB_perm {hold win : Int} {gs ds : List S52} (h : gs.Perm ds) : sumB hold win gs = sumB hold win ds := sum_perm (h.map _)
/-- What Least costs. -/
theorem least_is {l : List S73} {gs : List S52} {hold win : Int} (hb : bothE l hold win = 0) (hp : gs.Perm (gapsOf l)) :
    (leastR hold win (wrap64 ((l.length : Int) * win)) gs gs.length).1 = cntOf l * win + sumB hold win (gapsOf l) := by
  obtain ⟨hck, h0, h1, w0, w1⟩ := bothE_zero hb
  obtain ⟨hl, c2, c3⟩ := chk_zero hck
  have tf := tr_facts l c2 c3
  have hgl := gapsOf_len l
  have hgc := gapsOf_cnt l
  have hlen := hp.length_eq
  have hm := mul_bd (a := (l.length : Int)) (b := win) (A := 200) (B := 1000000000) (by omega) (by omega) w0 w1
  rw [IntWalk.wrap64_in _ (by omega), leastR_is l.length hl gs (fun g hg => tf.gaps g (hp.mem_iff.1 hg)) (by omega) h0 h1 w0 w1 gs.length (Nat.le_refl _), List.take_length, sumB_perm hp, hlen]
  have : (l.length : Int) * win = (gapsOf l).length * win + cntOf l * win := by rw [← hgc, Int.natCast_add, Int.add_mul]
  omega
/-- the age of the theorem -/
theorem gap_twice {hold win : Int} {g : S52} (hg : okG g) (h0 : 1 ≤ hold) (w0 : 0 ≤ win) :
    bestC hold win g ≤ gapC hold win (mn (win / hold) 1000000000) g ∧ gapC hold win (mn (win / hold) 1000000000) g ≤ 2 * bestC hold win g := by
  obtain ⟨g0, g1, g2⟩ := hg
  have hq0 : 0 ≤ win / hold := Int.ediv_nonneg w0 (by omega)
  have hq1 : win / hold * hold ≤ win := Int.ediv_mul_le win (by omega)
  have hq2 : win < (win / hold + 1) * hold := Int.lt_ediv_add_one_mul_self win (by omega)
  generalize win / hold = q at *
  have hleft : g.f2 - g.f1 ≤ 1000000000 := by omega
  have hl1 : 1 ≤ g.f2 - g.f1 := by omega
  unfold gapC bestC
  generalize g.f2 - g.f1 = left at *
  by_cases hc : left ≤ q
  · have e1 : mn (mn q 1000000000) left = left := by unfold mn; split <;> split <;> omega
    have e2 : left * hold ≤ q * hold := Int.mul_le_mul_of_nonneg_right hc (by omega)
    have e4 : 0 ≤ left * hold := Int.mul_nonneg (by omega) (by omega)
    have e3 : mn win (left * hold) = left * hold := by unfold mn; split <;> omega
    rw [e1, e3, if_neg (by omega)]
    omega
  · have e0 : mn q 1000000000 = q := by unfold mn; split <;> omega
    have e1 : mn q left = q := by unfold mn; split <;> omega
    have e2 : (q + 1) * hold ≤ left * hold := Int.mul_le_mul_of_nonneg_right (by omega) (by omega)
    have e4 : 0 ≤ q * hold := Int.mul_nonneg (by omega) (by omega)
    have e3 : mn win (left * hold) = win := by unfold mn; split <;> omega
    rw [e0, e1, e3, if_pos (by omega)]
    omega
theorem sum_twice {hold win : Int} (h0 : 1 ≤ hold) (w0 : 0 ≤ win) : ∀ (gs : List S52), (∀ g ∈ gs, okG g) →
    sumB hold win gs ≤ sumG hold win (mn (win / hold) 1000000000) gs ∧ sumG hold win (mn (win / hold) 1000000000) gs ≤ 2 * sumB hold win gs
  | [], _ => by simp [sumB, sumG]
  | g :: gs, h => by
    have ih := sum_twice h0 w0 gs (fun x hx => h x (List.mem_cons_of_mem _ hx))
    have hb := gap_twice (h g (List.mem_cons_self ..)) h0 w0
    simp only [sumB, sumG, List.map_cons, List.sum_cons] at ih ⊢
    omega
theorem tails_twice {hold win e : Int} {f : Int → Option Int} (h0 : 1 ≤ hold) (w0 : 0 ≤ win) (hf : ∀ p y, f p = some y → 0 ≤ y ∧ y ≤ e) : ∀ (ks : List Int), (∀ p ∈ ks, (f p).isSome = true) →
    0 ≤ sumT hold (mn (win / hold) 1000000000) e f ks ∧ sumT hold (mn (win / hold) 1000000000) e f ks ≤ ks.length * win
  | [], _ => by simp [sumT]
  | p :: ks, h => by
    have ih := tails_twice h0 w0 hf ks (fun x hx => h x (List.mem_cons_of_mem _ hx))
    have hp := h p (List.mem_cons_self ..)
    cases hfp : f p with
    | none => rw [hfp] at hp; cases hp
    | some y =>
      have hy := hf p y hfp
      have hq0 : 0 ≤ win / hold := Int.ediv_nonneg w0 (by omega)
      have hq1 : win / hold * hold ≤ win := Int.ediv_mul_le win (by omega)
      have hm : 0 ≤ mn (mn (win / hold) 1000000000) (e - y) ∧ mn (mn (win / hold) 1000000000) (e - y) ≤ win / hold := by unfold mn; split <;> split <;> omega
      have h3 : mn (mn (win / hold) 1000000000) (e - y) * hold ≤ win / hold * hold := Int.mul_le_mul_of_nonneg_right hm.2 (by omega)
      have h4 : 0 ≤ mn (mn (win / hold) 1000000000) (e - y) * hold := Int.mul_nonneg hm.1 (by omega)
      have h5 : ((ks.length + 1 : Nat) : Int) * win = ks.length * win + win := by rw [Int.natCast_add, Int.add_mul]; omega
      simp only [sumT, List.map_cons, List.sum_cons, List.length_cons, hfp, Option.getD_some] at ih ⊢
      omega
/-- P31.6. -/
theorem twice_is {l : List S73} {hold win : Int} (hb : bothE l hold win = 0) (h1 : 1 ≤ hold) :
    0 ≤ cntOf l * win + sumB hold win (gapsOf l) ∧ cntOf l * win + sumB hold win (gapsOf l) ≤ costV hold win (mn (win / hold) 1000000000) l ∧
      costV hold win (mn (win / hold) 1000000000) l ≤ 2 * (cntOf l * win + sumB hold win (gapsOf l)) ∧ cntOf l * win + sumB hold win (gapsOf l) ≤ 400000000000 := by
  obtain ⟨hck, h0, h2, w0, w1⟩ := bothE_zero hb
  obtain ⟨hl, c2, c3⟩ := chk_zero hck
  have tf := tr_facts l c2 c3
  have hgl := gapsOf_len l
  have hc := tf.cnt
  have a1 := sum_twice h1 w0 (gapsOf l) tf.gaps
  have a2 := tails_twice h1 w0 tf.last (keysOf l) (fun p hp => (keysOf_mem l p).1 hp)
  have a3 := sumB_bd h0 h2 w0 w1 (gapsOf l) tf.gaps
  have m1 := mul_bd (a := (cntOf l : Int)) (b := win) (A := 200) (B := 1000000000) (by omega) (by omega) w0 w1
  have m2 := mul_bd (a := ((gapsOf l).length : Int)) (b := win) (A := 200) (B := 1000000000) (by omega) (by omega) w0 w1
  rw [keysOf_len] at a2
  unfold costV
  omega
end Go.Proofs.Ytdkfmbammdmohaa.PPolicyCosts

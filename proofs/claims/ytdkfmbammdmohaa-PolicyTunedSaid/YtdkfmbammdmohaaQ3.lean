/- P31.7 in plain words: the age of Tune costs least, and it is the least such age. -/
import Derived.Test.YtdkfmbammdmohaaH1
namespace Go.Proofs.Ytdkfmbammdmohaa.PPolicyCosts
open Go.RowKit Go.Proofs.YtdkfmbammdmohaaW.PrintWords Go.Proofs.YtdkfmbammdmohaaW.PrintLast Go.Proofs.YtdkfmbammdmohaaW.PrintMore
open Go.Proofs.YtdkfmbammdmohaaM Go.Proofs.YtdkfmbammdmohaaS
set_option linter.unusedVariables false
set_option linter.unusedSimpArgs false

theorem tuneR_inv (C : Int → Int) (xs : List Int) : xs.Pairwise (· ≤ ·) → (∀ x ∈ xs, 0 ≤ C x) → xs ≠ [] →
    (tuneR C xs).1 ∈ xs ∧ (tuneR C xs).2 = C (tuneR C xs).1 ∧ ∀ x ∈ xs, C (tuneR C xs).1 ≤ C x ∧ (x < (tuneR C xs).1 → C (tuneR C xs).1 < C x) := by
  refine snoc_ind (P := fun xs => xs.Pairwise (· ≤ ·) → (∀ x ∈ xs, 0 ≤ C x) → xs ≠ [] →
    (tuneR C xs).1 ∈ xs ∧ (tuneR C xs).2 = C (tuneR C xs).1 ∧ ∀ x ∈ xs, C (tuneR C xs).1 ≤ C x ∧ (x < (tuneR C xs).1 → C (tuneR C xs).1 < C x)) (fun _ _ h => absurd rfl h) ?_ xs
  intro l a ih hs hC _
  rw [List.pairwise_append] at hs
  have hCa : 0 ≤ C a := hC a (by simp)
  rw [tuneR_snoc]
  by_cases hl : l = []
  · subst hl
    have : tuneS C (tuneR C []) a = (a, C a) := by simp [tuneR, tuneS]
    rw [this]
    refine ⟨by simp, rfl, fun x hx => ?_⟩
    simp at hx
    subst hx
    exact ⟨Int.le_refl _, fun h => absurd h (by simp)⟩
  · obtain ⟨h1, h2, h3⟩ := ih hs.1 (fun x hx => hC x (by simp [hx])) hl
    have h0 : 0 ≤ (tuneR C l).2 := by rw [h2]; exact hC _ (by simp [h1])
    unfold tuneS
    by_cases hlt : C a < (tuneR C l).2
    · rw [if_pos (Or.inr hlt)]
      refine ⟨by simp, rfl, fun x hx => ?_⟩
      rw [List.mem_append] at hx
      rcases hx with hx | hx
      · have := (h3 x hx).1
        simp only
        omega
      · simp at hx
        subst hx
        exact ⟨Int.le_refl _, fun h => absurd h (by simp)⟩
    · rw [if_neg (by omega)]
      refine ⟨by simp [h1], h2, fun x hx => ?_⟩
      rw [List.mem_append] at hx
      rcases hx with hx | hx
      · exact h3 x hx
      · simp at hx
        subst hx
        have hle := hs.2.2 _ h1 x (by simp)
        exact ⟨by omega, fun h => by omega⟩
theorem exists_max (age : Int) (xs : List Int) : (∃ x ∈ xs, x ≤ age) → ∃ a ∈ xs, a ≤ age ∧ ∀ x ∈ xs, x ≤ age → x ≤ a := by
  induction xs with
  | nil => rintro ⟨x, hx, _⟩; cases hx
  | cons y ys ih =>
    rintro ⟨x, hx, hxa⟩
    by_cases h : ∃ x ∈ ys, x ≤ age
    · obtain ⟨a, h1, h2, h3⟩ := ih h
      by_cases hy : y ≤ age ∧ a < y
      · refine ⟨y, by simp, hy.1, fun z hz hza => ?_⟩
        rcases List.mem_cons.1 hz with rfl | hz
        · exact Int.le_refl _
        · have := h3 z hz hza; omega
      · refine ⟨a, by simp [h1], h2, fun z hz hza => ?_⟩
        rcases List.mem_cons.1 hz with rfl | hz
        · omega
        · exact h3 z hz hza
    · rcases List.mem_cons.1 hx with rfl | hx
      · refine ⟨x, by simp, hxa, fun z hz hza => ?_⟩
        rcases List.mem_cons.1 hz with rfl | hz
        · exact Int.le_refl _
        · exact absurd ⟨z, hz, hza⟩ h
      · exact absurd ⟨x, hx, hxa⟩ h
theorem gapC_mono {hold win a0 age : Int} {g : S52} (h0 : 0 ≤ hold) (ha : a0 ≤ age) (hg : g.f2 - g.f1 ≤ age → g.f2 - g.f1 ≤ a0) : gapC hold win a0 g ≤ gapC hold win age g := by
  unfold gapC
  generalize g.f2 - g.f1 = d at *
  by_cases hd : d ≤ age
  · have := hg hd
    have e1 : mn a0 d = d := by unfold mn; split <;> omega
    have e2 : mn age d = d := by unfold mn; split <;> omega
    rw [e1, e2]
    exact Int.le_refl _
  · have e1 : mn a0 d = a0 := by unfold mn; split <;> omega
    have e2 : mn age d = age := by unfold mn; split <;> omega
    rw [e1, e2, if_pos (by omega), if_pos (by omega)]
    have := Int.mul_le_mul_of_nonneg_right ha h0
    omega
theorem sumG_mono {hold win a0 age : Int} (h0 : 0 ≤ hold) (ha : a0 ≤ age) : ∀ (gs : List S52), (∀ g ∈ gs, g.f2 - g.f1 ≤ age → g.f2 - g.f1 ≤ a0) → sumG hold win a0 gs ≤ sumG hold win age gs
  | [], _ => by simp [sumG]
  | g :: gs, h => by
    have ih := sumG_mono (win := win) h0 ha gs (fun x hx => h x (List.mem_cons_of_mem _ hx))
    have := gapC_mono (win := win) h0 ha (h g (List.mem_cons_self ..))
    simp only [sumG, List.map_cons, List.sum_cons] at ih ⊢
    omega
theorem sumT_mono {hold a0 age e : Int} {f : Int → Option Int} (h0 : 0 ≤ hold) (ha : a0 ≤ age) : ∀ (ks : List Int), sumT hold a0 e f ks ≤ sumT hold age e f ks
  | [] => by simp [sumT]
  | p :: ks => by
    have ih := sumT_mono (e := e) (f := f) h0 ha ks
    have hm : mn a0 (e - (f p).getD 0) ≤ mn age (e - (f p).getD 0) := by unfold mn; split <;> split <;> omega
    have := Int.mul_le_mul_of_nonneg_right hm h0
    simp only [sumT, List.map_cons, List.sum_cons] at ih ⊢
    omega
theorem mem_ages {gs : List S52} (h : ∀ g ∈ gs, okG g) (x : Int) : x ∈ agesA gs ↔ x = 0 ∨ ∃ g ∈ gs, x = g.f2 - g.f1 := by
  unfold agesA
  rw [List.mem_mergeSort]
  simp only [rawA, List.mem_cons, List.mem_map]
  constructor
  · rintro (h1 | ⟨g, hg, rfl⟩)
    · exact .inl h1
    · obtain ⟨a, b, c⟩ := h g hg
      exact .inr ⟨g, hg, IntWalk.wrap64_in _ (by omega)⟩
  · rintro (h1 | ⟨g, hg, rfl⟩)
    · exact .inl h1
    · obtain ⟨a, b, c⟩ := h g hg
      exact .inr ⟨g, hg, IntWalk.wrap64_in _ (by omega)⟩
theorem costV_nonneg {hold win age : Int} {l : List S73} (hb : bothE l hold win = 0) (a0 : 0 ≤ age) : 0 ≤ costV hold win age l := by
  obtain ⟨hck, h0, h1, w0, w1⟩ := bothE_zero hb
  obtain ⟨hl, c2, c3⟩ := chk_zero hck
  have tf := tr_facts l c2 c3
  have a1 := sumG_bd h0 h1 w0 w1 a0 (gapsOf l) tf.gaps
  have a2 := sumT_bd h0 h1 a0 tf.e1 tf.last (keysOf l) (fun p hp => (keysOf_mem l p).1 hp)
  have m1 : 0 ≤ (cntOf l : Int) * win := Int.mul_nonneg (by omega) w0
  unfold costV
  omega
/-- What Tune says. -/
structure TuneLaw (l : List S73) (hold win a n : Int) : Prop where
  lo : 0 ≤ a
  hi : a ≤ 1000000000
  is : n = costV hold win a l
  least : ∀ age, 0 ≤ age → n ≤ costV hold win age l
  first : ∀ age, 0 ≤ age → age < a → n < costV hold win age l
theorem tune_law {l : List S73} {gs : List S52} {hold win : Int} (hb : bothE l hold win = 0) (hp : gs.Perm (gapsOf l)) :
    TuneLaw l hold win (tuneR (fun a => costV hold win a l) (agesA gs)).1 (tuneR (fun a => costV hold win a l) (agesA gs)).2 := by
  obtain ⟨hck, h0, h1, w0, w1⟩ := bothE_zero hb
  obtain ⟨hl, c2, c3⟩ := chk_zero hck
  have tf := tr_facts l c2 c3
  have hgs : ∀ g ∈ gs, okG g := fun g hg => tf.gaps g (hp.mem_iff.1 hg)
  have hma := mem_ages hgs
  have hnn : ∀ x ∈ agesA gs, 0 ≤ x := agesA_nonneg hgs
  have h0m : (0 : Int) ∈ agesA gs := (hma 0).2 (.inl rfl)
  obtain ⟨t1, t2, t3⟩ := tuneR_inv (fun a => costV hold win a l) (agesA gs) (ages_sorted _) (fun x hx => costV_nonneg hb (hnn x hx)) (List.ne_nil_of_mem h0m)
  generalize tuneR (fun a => costV hold win a l) (agesA gs) = r at *
  obtain ⟨a, n⟩ := r
  simp only at t1 t2 t3
  have key : ∀ age, 0 ≤ age → ∃ a0 ∈ agesA gs, a0 ≤ age ∧ costV hold win a0 l ≤ costV hold win age l := by
    intro age ha
    obtain ⟨a0, m0, m1, m2⟩ := exists_max age (agesA gs) ⟨0, h0m, ha⟩
    refine ⟨a0, m0, m1, ?_⟩
    have s1 := sumG_mono (win := win) h0 m1 (gapsOf l) (fun g hg => fun h => m2 _ ((hma _).2 (.inr ⟨g, hp.mem_iff.2 hg, rfl⟩)) h)
    have s2 := sumT_mono (e := endOf l) (f := lastOf l) h0 m1 (keysOf l)
    unfold costV
    omega
  refine ⟨hnn a t1, ?_, t2, fun age ha => ?_, fun age ha hlt => ?_⟩
  · rcases (hma a).1 t1 with rfl | ⟨g, hg, rfl⟩
    · simp
    · obtain ⟨x, y, z⟩ := hgs g hg
      simp only
      omega
  · obtain ⟨a0, m0, m1, m2⟩ := key age ha
    have := (t3 a0 m0).1
    simp only at t2 ⊢
    omega
  · obtain ⟨a0, m0, m1, m2⟩ := key age ha
    simp only at hlt
    have := (t3 a0 m0).2 (by omega)
    simp only at t2 ⊢
    omega
end Go.Proofs.Ytdkfmbammdmohaa.PPolicyCosts

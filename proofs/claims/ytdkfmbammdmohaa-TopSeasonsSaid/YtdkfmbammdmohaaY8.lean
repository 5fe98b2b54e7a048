/- P31.7 in plain words: the age of Tune costs least, and it is the least such age. -/
import Derived.Test.YtdkfmbammdmohaaY7
import Derived.Test.YtdkfmbammdmohaaY6
namespace Go.Proofs.Ytdkfmbammdmohaa.PPolicyCosts
open Go.RowKit Go.Proofs.YtdkfmbammdmohaaW.PrintWords Go.Proofs.YtdkfmbammdmohaaW.PrintLast Go.Proofs.YtdkfmbammdmohaaW.PrintMore
open Go.Proofs.YtdkfmbammdmohaaM Go.Proofs.YtdkfmbammdmohaaS
set_option linter.unusedVariables false
set_option linter.unusedSimpArgs false

theorem tuneR_inv (C : Int → Int) (xs : List Int) : xs.Pairwise (· ≤ ·) → (∀ x ∈ xs, 0 ≤ C x) → xs ≠ [] →
    (tuneR C xs).1 ∈ xs ∧ (tuneR C xs).2 = C (tuneR C xs).1 ∧ ∀ x ∈ xs, C (tuneR C xs).1 ≤ C x ∧ (x < (tuneR C xs).1 → C (tuneR C xs).1 < C x) := by
  refine snoc_ind (P := fun xs => xs.Pairwise (· ≤ ·) → (∀ x ∈ xs, 0 ≤ C x) → xs ≠ [] →
    (tuneR C xs).1 ∈ xs ∧ (tuneR C xs).2 = C (tuneR C xs).1 ∧ ∀ x ∈ xs, C (tuneR C xs).1 ≤ C x ∧ (x < (tuneR C xs).1 → C (tuneR C xs).1 < C x)) (fun _ _ h => absurd rfl h) ?_ xs
  intro l a ih hs hC _
  rw [List.pairwise_append] at hs
  have hCa : 0 ≤ C a := hC a (by simp)
  rw [tuneR_snoc]
  by_cases hl : l = []
  · subst hl
    have : tuneS C (tuneR C []) a = (a, C a) := by simp [tuneR, tuneS]
    rw [this]
    refine ⟨by simp, rfl, fun x hx => ?_⟩
    simp at hx
    subst hx
    exact ⟨Int.le_refl _, fun h => absurd h (by simp)⟩
  · obtain ⟨h1, h2, h3⟩ := ih hs.1 (fun x hx => hC x (by simp [hx])) hl
    have h0 : 0 ≤ (tuneR C l).2 := by rw [h2]; exact hC _ (by simp [h1])
    unfold tuneS
    by_cases hlt : C a < (tuneR C l).2
    · rw [if_pos (Or.inr hlt)]
      refine ⟨by simp, rfl, fun x hx => ?_⟩
      rw [List.mem_append] at hx
      rcases hx with hx | hx
      · have := (h3 x hx).1
        simp only
        omega
      · simp at hx
        subst hx
        exact ⟨Int.le_refl _, fun h => absurd h (by simp)⟩
    · rw [if_neg (by omega)]
      refine ⟨by simp [h1], h2, fun x hx => ?_⟩
      rw [List.mem_append] at hx
      rcases hx with hx | hx
      · exact h3 x hx
      · simp at hx
        subst hx
        have hle := hs.2.2 _ h1 x (by simp)
        exact ⟨by omega, fun h => by omega⟩
theorem exists_max (age : Int) (xs : List Int) : (∃ x ∈ xs, x ≤ age) → ∃ a ∈ xs, a ≤ age ∧ ∀ x ∈ xs, x ≤ age → x ≤ a := by
  induction xs with
  | nil => rintro ⟨x, hx, _⟩; cases hx
  | cons y ys ih =>
    rintro ⟨x, hx, hxa⟩
    by_cases h : ∃ x ∈ ys, x ≤ age
    · obtain ⟨a, h1, h2, h3⟩ := ih h
      by_cases hy : y ≤ age ∧ a < y
      · refine ⟨y, by simp, hy.1, fun z hz hza => ?_⟩
        rcases List.mem_cons.1 hz with rfl | hz
        · exact Int.le_refl _
        · have := h3 z hz hza; omega
      · refine ⟨a, by simp [h1], h2, fun z hz hza => ?_⟩
        rcases List.mem_cons.1 hz with rfl | hz
        · omega
        · exact h3 z hz hza
    · rcases List.mem_cons.1 hx with rfl | hx
      · refine ⟨x, by simp, hxa, fun z hz hza => ?_⟩
        rcases List.mem_cons.1 hz with rfl | hz
        · exact Int.le_refl _
        · exact absurd ⟨z, hz, hza⟩ h
      · exact absurd ⟨x, hx, hxa⟩ h
theorem gapC_mono {hold win a0 age : Int} {g : S52} (h0 : 0 ≤ hold) (ha : a0 ≤ age) (hg : g.f2 - g.f1 ≤ age → g.f2 - g.f1 ≤ a0) : gapC hold win a0 g ≤ gapC hold win age g := by
  unfold gapC
  generalize g.f2 - g.f1 = d at *
  by_cases hd : d ≤ age
  · have := hg hd
    have e1 : mn a0 d = d := by unfold mn; split <;> omega
    have e2 : mn age d = d := by unfold mn; split <;> omega
    rw [e1, e2]
    exact Int.le_refl _
  · have e1 : mn a0 d = a0 := by unfold mn; split <;> omega
    have e2 : mn age d = age := by unfold mn; split <;> omega
    rw [e1, e2, if_pos (by omega), if_pos (by omega)]
    have := Int.mul_le_mul_of_nonneg_right ha h0
    omega
theorem sumG_mono {hold win a0 age : Int} (h0 : 0 ≤ hold) (ha : a0 ≤ age) : ∀ (gs : List S52), (∀ g ∈ gs, g.f2 - g.f1 ≤ age → g.f2 - g.f1 ≤ a0) → sumG hold win a0 gs ≤ sumG hold win age gs
  | [], _ => by simp [sumG]
  | g :: gs, h => by
    have ih := sumG_mono (win := win) h0 ha gs (fun x hx => h x (List.mem_cons_of_mem _ hx))
    have := gapC_mono (win := win) h0 ha (h g (List.mem_cons_self ..))
    simp only [sumG, List.map_cons, List.sum_cons] at ih ⊢
    omega
theorem sumT_mono {hold a0 age e : Int} {f : Int → Option Int} (h0 : 0 ≤ hold) (ha : a0 ≤ age) : ∀ (ks : List Int), sumT hold a0 e f ks ≤ sumT hold age e f ks
  | [] => by simp [sumT]
  | p :: ks => by
    have ih := sumT_mono (e := e) (f := f) h0 ha ks
    have hm : mn a0 (e - (f p).getD 0) ≤ mn age (e - (f p).getD 0) := by unfold mn; split <;> split <;> omega
    have := Int.mul_le_mul_of_nonneg_right hm h0
    simp only [sumT, List.map_cons, List.sum_cons] at ih ⊢
    omega
theorem mem_ages {gs : List S52} (h : ∀ g ∈ gs, okG g) (x : Int) : x ∈ agesA gs ↔ x = 0 ∨ ∃ g ∈ gs, x = g.f2 - g.f1 := by
  unfold agesA
  rw [List.mem_mergeSort]
  simp only [rawA, List.mem_cons, List.mem_map]
  constructor
  · rintro (h1 | ⟨g, hg, rfl⟩)
    · exact .inl h1
    · obtain ⟨a, b, c⟩ := h g hg
      exact .inr ⟨g, hg, IntWalk.wrap64_in _ (by omega)⟩
  · rintro (h1 | ⟨g, hg, rfl⟩)
    · exact .inl h1
    · obtain ⟨a, b, c⟩ := h g hg
      exact .inr ⟨g, hg, IntWalk.wrap64_in _ (by omega)⟩
theorem costV_nonneg {hold win age : Int} {l : List S73} (hb : bothE l hold win = 0) (a0 : 0 ≤ age) : 0 ≤ costV hold win age l := by
  obtain ⟨hck, h0, h1, w0, w1⟩ := bothE_zero hb
  obtain ⟨hl, c2, c3⟩ := chk_zero hck
  have tf := tr_facts l c2 c3
  have a1 := sumG_bd h0 h1 w0 w1 a0 (gapsOf l) tf.gaps
  have a2 := sumT_bd h0 h1 a0 tf.e1 tf.last (keysOf l) (fun p hp => (keysOf_mem l p).1 hp)
  have m1 : 0 ≤ (cntOf l : Int) * win := Int.mul_nonneg (by omega) w0
  unfold costV
  omega
/-- What Tune says. -/
structure TuneLaw (l : List S73) (hold win a n : Int) : Prop where
  lo : 0 ≤ a
  hi : a ≤ 1000000000
  is : n = costV hold win a l
  least : ∀ age, 0 ≤ age → n ≤ costV hold win age l
  first : ∀ age, 0 ≤ age → age < a → n < costV hold win age l
theorem tune_law {l : List S73} {gs : List S52} {hold win : Int} (hb : bothE l hold win = 0) (hp : gs.Perm (gapsOf l)) :
    TuneLaw l hold win (tuneR (fun a => costV hold win a l) (agesA gs)).1 (tuneR (fun a => costV hold win a l) (agesA gs)).2 := by
  obtain ⟨hck, h0, h1, w0, w1⟩ := bothE_zero hb
  obtain ⟨hl, c2, c3⟩ := chk_zero hck
  have tf := tr_facts l c2 c3
  have hgs : ∀ g ∈ gs, okG g := fun g hg => tf.gaps g (hp.mem_iff.1 hg)
  have hma := mem_ages hgs
  have hnn : ∀ x ∈ agesA gs, 0 ≤ x := agesA_nonneg hgs
  have h0m : (0 : Int) ∈ agesA gs := (hma 0).2 (.inl rfl)
  obtain ⟨t1, t2, t3⟩ := tuneR_inv (fun a => costV hold win a l) (agesA gs) (ages_sorted _) (fun x hx => costV_nonneg hb (hnn x hx)) (List.ne_nil_of_mem h0m)
  generalize tuneR (fun a => costV hold win a l) (agesA gs) = r at *
  obtain ⟨a, n⟩ := r
  simp only at t1 t2 t3
  have key : ∀ age, 0 ≤ age → ∃ a0 ∈ agesA gs, a0 ≤ age ∧ costV hold win a0 l ≤ costV hold win age l := by
    intro age ha
    obtain ⟨a0, m0, m1, m2⟩ := exists_max age (agesA gs) ⟨0, h0m, ha⟩
    refine ⟨a0, m0, m1, ?_⟩
    have s1 := sumG_mono (win := win) h0 m1 (gapsOf l) (fun g hg => fun h => m2 _ ((hma _).2 (.inr ⟨g, hp.mem_iff.2 hg, rfl⟩)) h)
    have s2 := sumT_mono (e := endOf l) (f := lastOf l) h0 m1 (keysOf l)
    unfold costV
    omega
  refine ⟨hnn a t1, ?_, t2, fun age ha => ?_, fun age ha hlt => ?_⟩
  · rcases (hma a).1 t1 with rfl | ⟨g, hg, rfl⟩
    · simp
    · obtain ⟨x, y, z⟩ := hgs g hg
      simp only
      omega
  · obtain ⟨a0, m0, m1, m2⟩ := key age ha
    have := (t3 a0 m0).1
    simp only at t2 ⊢
    omega
  · obtain ⟨a0, m0, m1, m2⟩ := key age ha
    simp only at hlt
    have := (t3 a0 m0).2 (by omega)
    simp only at t2 ⊢
    omega
end Go.Proofs.Ytdkfmbammdmohaa.PPolicyCosts

namespace Go.Proofs.Ytdkfmbammdmohaa.PPolicyCosts
open Go.RowKit Go.Proofs.YtdkfmbammdmohaaW.PrintWords Go.Proofs.YtdkfmbammdmohaaW.PrintLast Go.Proofs.YtdkfmbammdmohaaW.PrintMore
open Go.Proofs.YtdkfmbammdmohaaM Go.Proofs.YtdkfmbammdmohaaS
set_option linter.unusedVariables false
set_option linter.unusedSimpArgs false

/-- the age that costs least, below a number -/
def tuneL (C : Int → Int) : Nat → Int × Int
  | 0 => (0, -1)
  | a + 1 => if (tuneL C a).2 < 0 ∨ C (a : Int) < (tuneL C a).2 then ((a : Int), C (a : Int)) else tuneL C a
theorem tuneL_inv (C : Int → Int) (h : ∀ a, 0 ≤ a → 0 ≤ C a) : ∀ k : Nat, k = 0 ∨ (∃ m : Nat, m < k ∧ tuneL C k = ((m : Int), C (m : Int)) ∧ ∀ a : Nat, a < k → C (m : Int) ≤ C (a : Int) ∧ (a < m → C (m : Int) < C (a : Int)))
  | 0 => .inl rfl
  | k + 1 => by
    right
    have hk := h (k : Int) (by omega)
    rw [tuneL]
    rcases tuneL_inv C h k with rfl | ⟨m, hm, he, hmin⟩
    · rw [if_pos (.inl (by simp [tuneL]))]
      refine ⟨0, by omega, rfl, fun a ha => ?_⟩
      obtain rfl : a = 0 := by omega
      exact ⟨Int.le_refl _, fun h => by omega⟩
    · have hm0 := h (m : Int) (by omega)
      rw [he]
      simp only
      by_cases hlt : C (k : Int) < C (m : Int)
      · rw [if_pos (.inr hlt)]
        refine ⟨k, by omega, rfl, fun a ha => ?_⟩
        by_cases hak : a = k
        · subst hak; exact ⟨Int.le_refl _, fun h => by omega⟩
        · have := hmin a (by omega); exact ⟨by omega, fun _ => by omega⟩
      · rw [if_neg (by omega)]
        refine ⟨m, by omega, rfl, fun a ha => ?_⟩
        by_cases hak : a = k
        · subst hak; exact ⟨by omega, fun h => by omega⟩
        · exact hmin a (by omega)
theorem tune_end {l : List S73} {hold win : Int} (h : Tr3 l) (ho : okTrace l = true) (hb : bothE l hold win = 0) :
    tuneL (fun a => costV hold win a l) ((endOf l).toNat + 1) = ((tuneR (fun a => costV hold win a l) (agesA (gapsOf l))).1, (tuneR (fun a => costV hold win a l) (agesA (gapsOf l))).2) := by
  have law := tune_law hb (List.Perm.refl (gapsOf l))
  obtain ⟨hck, h0, h1, w0, w1⟩ := bothE_zero hb
  obtain ⟨hl, c2, c3⟩ := chk_zero hck
  have tf := tr_facts l c2 c3
  have hgs : ∀ g ∈ gapsOf l, okG g := tf.gaps
  have hma := mem_ages hgs
  have hnn : ∀ x ∈ agesA (gapsOf l), 0 ≤ x := agesA_nonneg hgs
  have h0m : (0 : Int) ∈ agesA (gapsOf l) := (hma 0).2 (.inl rfl)
  have t1 := (tuneR_inv (fun a => costV hold win a l) (agesA (gapsOf l)) (ages_sorted _) (fun x hx => costV_nonneg hb (hnn x hx)) (List.ne_nil_of_mem h0m)).1
  generalize tuneR (fun a => costV hold win a l) (agesA (gapsOf l)) = r at *
  obtain ⟨at1, n⟩ := r
  simp only at t1 law ⊢
  have hle : at1 ≤ endOf l := by
    have he0 := tf.e0
    rcases (hma at1).1 t1 with rfl | ⟨g, hg, rfl⟩
    · exact he0
    · obtain ⟨t, h1, h2, h3⟩ := (gaps_inv l (fun u hu => (h.rng u hu).2.2.2.1) ho).1 g hg
      have h4 := tf.last _ _ h1
      have h5 := gaps_few h ho g hg
      unfold fewG at h5
      omega
  obtain ⟨a, rfl⟩ := Int.eq_ofNat_of_zero_le law.lo
  rcases tuneL_inv (fun a => costV hold win a l) (fun a ha => costV_nonneg hb ha) ((endOf l).toNat + 1) with h0 | ⟨m, hm, he, hmin⟩
  · omega
  · rw [he]
    have h6 := hmin a (by omega)
    have h7 := law.least (m : Int) (by omega)
    have h8 := law.first (m : Int) (by omega)
    have h9 := law.is
    have hma : m = a := by
      rcases Nat.lt_trichotomy m a with h | h | h
      · have := h8 (by omega); omega
      · exact h
      · have := h6.2 h; omega
    subst hma
    rw [h9]
end Go.Proofs.Ytdkfmbammdmohaa.PPolicyCosts

namespace Go.Proofs.Ytdkfmbammdmohaa.PPolicyCosts
open Go.RowKit Go.Proofs.YtdkfmbammdmohaaW.PrintWords Go.Proofs.YtdkfmbammdmohaaW.PrintLast Go.Proofs.YtdkfmbammdmohaaW.PrintMore
open Go.Proofs.YtdkfmbammdmohaaM Go.Proofs.YtdkfmbammdmohaaS
set_option linter.unusedVariables false
set_option linter.unusedSimpArgs false

/-- what is known of a trace, costs, an age and a number -/
structure SeaF (l : List S73) (g : List S52) (en hold win age n : Int) : Prop where
  tr : Tr3 l
  lf : LF l
  ok : okTrace l = true
  both : bothE l hold win = 0
  len : l.length ≤ 8
  gs : g = gapsR l l.length
  en : en = endOf l
  few : FewH hold win (wrap64 ((l.length : Int) * win)) g
  a0 : 0 ≤ age
  a1 : age < 12
  n0 : 0 ≤ n
  n1 : n < 4
theorem uses_lf (xs : List S86) (k : Nat) (hk : k ≤ 8) : LF (usesR xs k).l := by
  have h := usesR_ok xs k
  have tr := uses_tr3 xs k hk
  have hs := List.pairwise_iff_getElem.1 h.srt
  have hd := List.pairwise_iff_getElem.1 tr.dis
  refine ⟨fun u hu => by have := tr.rng u hu; omega, ?_, tr.dis⟩
  refine List.pairwise_iff_getElem.2 (fun i j hi hj hij => ?_)
  have h1 := hs i j hi hj hij
  have h2 := hd i j hi hj hij
  have h3 := tr.rng _ (List.getElem_mem hi)
  unfold ltU at h1
  omega
theorem sea_of (xs : List S86) (m : Nat) (hm : m ≤ 8) (hold win age n : Int) (h0 : 0 ≤ hold) (h1 : hold < 8) (w0 : 0 ≤ win) (w1 : win < 40) (a0 : 0 ≤ age) (a1 : age < 12) (n0 : 0 ≤ n) (n1 : n < 4) :
    SeaF (usesR xs m).l (gapsR (usesR xs m).l (usesR xs m).l.length) (usesR xs m).e hold win age n := by
  have hb := uses_both xs m hm hold win h0 h1 w0 w1
  have hbz := bothE_zero hb
  obtain ⟨hl, c2, c3⟩ := chk_zero hbz.1
  have tr := uses_tr3 xs m hm
  have hlen : (usesR xs m).l.length = m := (usesR_bd xs m).len
  have hgl : (gapsR (usesR xs m).l (usesR xs m).l.length).length ≤ m := by
    rw [(gapsR_is (usesR xs m).l).1.length_eq]
    have := gapsOf_len (usesR xs m).l
    omega
  have hmul : (m : Int) * win ≤ 8 * 39 := Int.mul_le_mul (by omega) (by omega) w0 (by omega)
  have hmul0 : 0 ≤ (m : Int) * win := Int.mul_nonneg (by omega) w0
  have hmul2 : ((gapsR (usesR xs m).l (usesR xs m).l.length).length : Int) * win ≤ (m : Int) * win := Int.mul_le_mul_of_nonneg_right (by omega) w0
  have hw : wrap64 (((usesR xs m).l.length : Int) * win) = (m : Int) * win := by rw [hlen]; unfold wrap64; omega
  refine ⟨tr, uses_lf xs m hm, c3, hb, by omega, rfl, (usesR_end xs m).symm, ⟨gapsR_few tr c3, by omega, (gapsR_is _).2, h0, h1, w0, w1, ?_, ?_⟩, a0, a1, n0, n1⟩
  · rw [hw]; omega
  · rw [hw]; omega

section
variable {l : List S73} {g : List S52} {en hold win age n : Int} (F : SeaF l g en hold win age n) (A : Option Addr) (c : Nat) (W : World) (hC : Kd.C k73 W A l.length l) (hc : l.length ≤ c)
include F
theorem SeaF.e0 : 0 ≤ en ∧ en ≤ 80 := by
  have h1 := F.tr.end_le
  have h2 := (endOf_max l).2.1
  rw [F.en]
  exact ⟨h2, h1⟩
theorem SeaF.pg : ∀ u ∈ l, 0 ≤ u.f0 ∧ u.f0 < 3 := fun u hu => by have := F.tr.rng u hu; omega
include hC hc
theorem live_sea (kind ag most : Int) (m0 : 0 ≤ most) : Calls Try.prog 36 #[.slice A l.length c, .int .i64 en, .agg #[.int .i64 hold, .int .i64 win], .agg #[.int .i64 kind, .int .i64 ag, .int .i64 most]] W fun e w' => e = .returned (.int .i64 (liveR l hold win kind ag most en.toNat).cost) ∧ Below W.heap.size W w' := by
  have := F.e0
  have := F.len
  exact live31_any A c l en hold win kind ag most W hC hc (by omega) F.pg (by omega) (by omega) m0
theorem cost_sea (kind ag most : Int) (hp : polOK kind ag most = true) (a0 : 0 ≤ ag) (m0 : 0 ≤ most) : Calls Try.prog 9 #[.slice A l.length c, .agg #[.int .i64 hold, .int .i64 win], .agg #[.int .i64 kind, .int .i64 ag, .int .i64 most]] W
    fun e w' => e = .returned (.tuple #[.int .i64 (liveR l hold win kind ag most en.toNat).cost, .int .i64 0]) ∧ Below W.heap.size W w' :=
  (costF_any A c l hold win kind ag most W hC hc).mono fun e w' h2 => by
    obtain ⟨hb, h3 | h3 | ⟨_, _, v, rfl, h3⟩⟩ := h2
    · exact absurd F.both h3.1
    · rw [hp] at h3; exact absurd h3.2.1 (by decide)
    · refine ⟨?_, hb⟩
      have hin : ∀ a, 0 ≤ a → wrap64 (costV hold win a l) = costV hold win a l := fun a ha => costV_in F.both F.len ha
      rw [F.en]
      rcases h3 with h3 | h3 | h3 | h3
      · rw [h3.2, h3.1, live_keep F.tr, hin _ (by decide)]
      · rw [h3.2, h3.1, live_drop F.tr, hin _ (by decide)]
      · rw [h3.2, h3.1, live_age F.tr a0, hin _ a0]
      · obtain ⟨h4, ss, hss, hsort, rfl⟩ := h3
        rw [h4, live_most F.lf F.pg hss hsort m0]
theorem gaps_sea : Calls Try.prog 17 #[.slice A l.length c] W fun e w' => Below W.heap.size W w' ∧ ∃ B d, e = .returned (.tuple #[.slice B g.length d, .int .i64 0]) ∧ g.length ≤ d ∧ Kd.C k52 w' B g.length g :=
  (gapsF_any A c l W hC hc).mono fun e w' h2 => by
    obtain ⟨hb, h3 | ⟨_, B, d, gs, he, hd, hp, hs, hG⟩⟩ := h2
    · exact absurd (bothE_zero F.both).1 h3.1
    · have := told_is (fun u hu => (F.tr.rng u hu).2.2.2.1) F.ok hp hs
      rw [← F.gs] at this
      subst this
      exact ⟨hb, B, d, he, hd, hG⟩
theorem least_sea : Calls Try.prog 11 #[.slice A l.length c, .agg #[.int .i64 hold, .int .i64 win]] W fun e w' => Below W.heap.size W w' ∧ ∃ B d, e = .returned (.tuple #[.slice B (lstU (leastB hold win g) 8).length d, .int .i64 (bestR hold win (wrap64 ((l.length : Int) * win)) g (2 ^ g.length)), .int .i64 0]) ∧
      (lstU (leastB hold win g) 8).length ≤ d ∧ Kd.C (Kd.int .i64) w' B (lstU (leastB hold win g) 8).length (lstU (leastB hold win g) 8) :=
  (leastF_any A c l hold win W hC hc).mono fun e w' h2 => by
    obtain ⟨hb, h3 | ⟨_, B, d, gs, hp, hs, he, hd, hG⟩⟩ := h2
    · exact absurd F.both h3.1
    · have := told_is (fun u hu => (F.tr.rng u hu).2.2.2.1) F.ok hp hs
      rw [← F.gs] at this
      subst this
      have e1 := leastB_list hold win (wrap64 ((l.length : Int) * win)) gs F.few.len
      rw [e1] at he hd hG
      rw [← best_is F.few] at he
      exact ⟨hb, B, d, he, hd, hG⟩
theorem limited_sea : Calls Try.prog 41 #[.slice A l.length c, .agg #[.int .i64 hold, .int .i64 win], .int .i64 n] W fun e w' => Below W.heap.size W w' ∧ ∃ B d, e = .returned (.tuple #[.slice B (cheapR hold win (wrap64 ((l.length : Int) * win)) n g (2 ^ g.length)).2.length d, .int .i64 (cheapR hold win (wrap64 ((l.length : Int) * win)) n g (2 ^ g.length)).1, .int .i64 0]) ∧
      (cheapR hold win (wrap64 ((l.length : Int) * win)) n g (2 ^ g.length)).2.length ≤ d ∧ Kd.C (Kd.int .i64) w' B (cheapR hold win (wrap64 ((l.length : Int) * win)) n g (2 ^ g.length)).2.length (cheapR hold win (wrap64 ((l.length : Int) * win)) n g (2 ^ g.length)).2 := by
  have h8 := F.len
  have hn1 := F.n1
  refine (limited_any A c l hold win n W hC hc F.both F.n0 (by omega) (by omega)).mono fun e w' h2 => ?_
  obtain ⟨hb, B, d, gs, hp, hs, he, hd, hG⟩ := h2
  have := told_is (fun u hu => (F.tr.rng u hu).2.2.2.1) F.ok hp hs
  rw [← F.gs] at this
  subst this
  obtain ⟨e1, e2, e3, e4⟩ := limit_is F.few F.n0
  have hw : wrap64 (wrap64 ((l.length : Int) * win) - (limR hold win gs (worthR hold win gs gs.length) n (2 ^ (worthR hold win gs gs.length).length)).1) = wrap64 ((l.length : Int) * win) - (limR hold win gs (worthR hold win gs gs.length) n (2 ^ (worthR hold win gs gs.length).length)).1 := by
    have := F.few.c1
    generalize wrap64 ((l.length : Int) * win) = b at *
    unfold wrap64
    omega
  rw [hw] at he
  rw [e1]
  exact ⟨hb, B, d, he, hd, hG⟩
theorem tune_sea : Calls Try.prog 14 #[.slice A l.length c, .agg #[.int .i64 hold, .int .i64 win]] W fun e w' => e = .returned (.tuple #[.int .i64 (tuneL (fun a => costV hold win a l) (en.toNat + 1)).1, .int .i64 (tuneL (fun a => costV hold win a l) (en.toNat + 1)).2, .int .i64 0]) ∧ Below W.heap.size W w' :=
  (tuneF_any A c l hold win W hC hc).mono fun e w' h2 => by
    obtain ⟨hb, h3 | ⟨_, gs, hp, rfl⟩⟩ := h2
    · exact absurd F.both h3.1
    · refine ⟨?_, hb⟩
      rw [agesA_perm hp, F.en, tune_end F.tr F.ok F.both]
theorem age_sea (a : Int) (a0 : 0 ≤ a) : Calls Try.prog 36 #[.slice A l.length c, .int .i64 en, .agg #[.int .i64 hold, .int .i64 win], .agg #[.int .i64 3, .int .i64 a, .int .i64 0]] W fun e w' => e = .returned (.int .i64 (costV hold win a l)) ∧ Below W.heap.size W w' :=
  (live_sea F A c W hC hc 3 a 0 (by decide)).mono fun e w' h => by
    obtain ⟨rfl, hb⟩ := h
    refine ⟨?_, hb⟩
    rw [F.en, live_age F.tr a0, costV_in F.both F.len a0]
theorem kept_sea (B : Option Addr) (d : Nat) (hG : Kd.C k52 W B g.length g) (hd : g.length ≤ d) (b : Nat) (hb : b < 2 ^ g.length) : Calls Try.prog 37 #[.slice A l.length c, .slice B g.length d, .agg #[.int .i64 hold, .int .i64 win], .int .i64 (b : Int), .int .i64 n] W
    fun e w' => e = .returned (.tuple #[.int .i64 (keepC hold win g (b : Int) (wrap64 ((l.length : Int) * win)) g.length), .bool (decide (mostN g (b : Int) g.length ≤ n))]) ∧ Below W.heap.size W w' := by
  have hl := F.few.len
  have h256 : 2 ^ g.length ≤ 2 ^ 8 := Nat.pow_le_pow_right (by decide) hl
  obtain ⟨K, hK⟩ := kept_is l g hold win (b : Int) n (by omega) (by omega) (by omega)
  exact poldertop_kept31.calls K A c l B d g hold win (b : Int) n _ _ W hC hc hG hd hK
end
theorem less_sea (A B : Option Addr) (c d : Nat) (a b : List Int) (W : World) (hA : Kd.C (Kd.int .i64) W A a.length a) (hc : a.length ≤ c) (hB : Kd.C (Kd.int .i64) W B b.length b) (hd : b.length ≤ d) (ha : a.length ≤ 8) :
    Calls Try.prog 38 #[.slice A a.length c, .slice B b.length d] W fun e w' => e = .returned (.bool (lexL a b)) ∧ Below W.heap.size W w' :=
  (poldertop_less31.calls _ A c a B d b _ W hA hc hB hd (less_is a b (by omega))).mono fun e w' h => ⟨h.1, h.2.below⟩
theorem same_sea (A B : Option Addr) (c d : Nat) (a : List Int) (W : World) (hA : Kd.C (Kd.int .i64) W A a.length a) (hc : a.length ≤ c) (hB : Kd.C (Kd.int .i64) W B a.length a) (hd : a.length ≤ d) (ha : a.length ≤ 8) :
    Calls Try.prog 40 #[.slice A a.length c, .slice B a.length d] W fun e w' => e = .returned (.bool true) ∧ Below W.heap.size W w' :=
  (poldertop_same31.calls _ A c a B d a _ W hA hc hB hd (same_self a (by omega))).mono fun e w' h => ⟨h.1, h.2.below⟩
end Go.Proofs.Ytdkfmbammdmohaa.PPolicyCosts

/- Plain facts about a trace: what is bounded, what the order of the gaps and of the pages does not touch. -/
import Derived.Test.YtdkfmbammdmohaaF1
import Derived.Test.YtdkfmbammdmohaaB2
namespace Go.Proofs.Ytdkfmbammdmohaa.PPolicyCosts
open Go.RowKit Go.Proofs.YtdkfmbammdmohaaW.PrintWords Go.Proofs.YtdkfmbammdmohaaW.PrintLast Go.Proofs.YtdkfmbammdmohaaW.PrintMore
open Go.Proofs.YtdkfmbammdmohaaM Go.Proofs.YtdkfmbammdmohaaS
set_option linter.unusedVariables false
set_option linter.unusedSimpArgs false

theorem snoc_ind {α : Type} {P : List α → Prop} (h0 : P []) (h1 : ∀ l u, P l → P (l ++ [u])) (l : List α) : P l := by
  have : ∀ n (l : List α), l.length = n → P l := by
    intro n
    induction n with
    | zero => intro l hl; rw [List.eq_nil_of_length_eq_zero hl]; exact h0
    | succ n ih =>
      intro l hl
      rcases List.eq_nil_or_concat l with rfl | ⟨l', u, rfl⟩
      · exact h0
      · rw [List.concat_eq_append] at hl ⊢
        exact h1 l' u (ih l' (by simp at hl; omega))
  exact this _ l rfl

theorem chk_zero {l : List S73} (h : chk l = 0) : l.length ≤ 200 ∧ l.any wrongU = false ∧ okTrace l = true := by
  unfold chk at h
  split at h
  · omega
  · split at h
    · omega
    · rename_i h2
      split at h
      · rename_i h3; exact ⟨by omega, by simpa using h2, h3⟩
      · omega

theorem right_bd {u : S73} (h : wrongU u = false) : 0 ≤ u.f0 ∧ u.f0 < 1024 ∧ 0 ≤ u.f1 ∧ u.f1 ≤ 1000000000 ∧ 0 ≤ u.f2 ∧ u.f2 ≤ 1000000000 ∧ u.f1 < u.f2 := by
  simp [wrongU, outB] at h
  omega

/-- What holds of a proper trace. -/
structure TrFacts (l : List S73) : Prop where
  gaps : ∀ g ∈ gapsOf l, okG g
  last : ∀ p y, lastOf l p = some y → 0 ≤ y ∧ y ≤ endOf l
  e0 : 0 ≤ endOf l
  e1 : endOf l ≤ 1000000000
  cnt : cntOf l ≤ l.length

theorem tr_facts (l : List S73) : l.any wrongU = false → okTrace l = true → TrFacts l := by
  refine snoc_ind (P := fun l => l.any wrongU = false → okTrace l = true → TrFacts l) ?_ ?_ l
  · intro _ _
    exact ⟨by simp [gapsOf, gapsU], by simp [lastOf], by simp [endOf], by simp [endOf], by simp [cntOf, pagesOf]⟩
  · intro l u ih ha ho
    rw [List.any_append, Bool.or_eq_false_iff] at ha
    rw [okTrace_snoc, Bool.and_eq_true] at ho
    obtain ⟨g1, g2, g3, g4, g5⟩ := ih ha.1 ho.1
    have hu := right_bd (u := u) (by simpa using ha.2)
    have hmx : endOf l ≤ mx (endOf l) u.f2 ∧ u.f2 ≤ mx (endOf l) u.f2 ∧ mx (endOf l) u.f2 ≤ 1000000000 := by unfold mx; split <;> omega
    refine ⟨?_, ?_, ?_, ?_, ?_⟩
    · intro g hg
      rw [gapsOf_snoc, List.mem_append] at hg
      rcases hg with hg | hg
      · exact g1 g hg
      · unfold gapOf at hg
        cases hlo : lastOf l u.f0 with
        | none => rw [hlo] at hg; simp at hg
        | some t =>
          rw [hlo] at hg
          simp at hg
          subst hg
          have h2 := ho.2
          unfold okAt at h2
          rw [hlo, Bool.and_eq_true] at h2
          have h3 : t < u.f1 := by simpa using h2.2
          have := g2 _ _ hlo
          exact ⟨by simpa using this.1, h3, by simpa using hu.2.2.2.1⟩
    · intro p y hy
      rw [lastOf_snoc] at hy
      rw [endOf_snoc]
      split at hy
      · injection hy with hy; omega
      · have := g2 p y hy; omega
    · rw [endOf_snoc]; omega
    · rw [endOf_snoc]; omega
    · rw [cntOf_snoc, List.length_append]
      have : ([u] : List S73).length = 1 := rfl
      split <;> omega

theorem sum_perm {l r : List Int} (h : l.Perm r) : l.sum = r.sum := by
  induction h with
  | nil => rfl
  | cons x _ ih => simp [ih]
  | swap x y l => simp; omega
  | trans _ _ h1 h2 => rw [h1, h2]
theorem sumG_perm {hold win age : Int} {gs ds : List S52} (h : gs.Perm ds) : sumG hold win age gs = sumG hold win age ds := sum_perm (h.map _)
theorem sumT_perm {hold age e : Int} {f : Int → Option Int} {ks js : List Int} (h : ks.Perm js) : sumT hold age e f ks = sumT hold age e f js := sum_perm (h.map _)
theorem nodup_perm {ks js : List Int} (h1 : ks.Nodup) (h2 : js.Nodup) (h : ∀ p, p ∈ ks ↔ p ∈ js) : ks.Perm js := by
  rw [List.perm_iff_count]
  intro a
  rw [h1.count, h2.count]
  simp only [h a]

/-- the pages of a trace -/
def keyOf (pre : List S73) (u : S73) : List Int := if (lastOf pre u.f0).isSome then [] else [u.f0]
def keysU : List S73 → List S73 → List Int
  | _, [] => []
  | pre, u :: r => keyOf pre u ++ keysU (pre ++ [u]) r
theorem keysU_snoc (r : List S73) : ∀ (pre : List S73) (u : S73), keysU pre (r ++ [u]) = keysU pre r ++ keyOf (pre ++ r) u := by
  induction r with
  | nil => intro pre u; simp [keysU]
  | cons x r ih => intro pre u; simp [keysU, ih]
def keysOf (l : List S73) : List Int := keysU [] l
theorem keysOf_snoc (l : List S73) (u : S73) : keysOf (l ++ [u]) = keysOf l ++ keyOf l u := by
  unfold keysOf; rw [keysU_snoc]; simp
theorem keysOf_mem (l : List S73) : ∀ p, p ∈ keysOf l ↔ (lastOf l p).isSome = true := by
  refine snoc_ind (P := fun l => ∀ p, p ∈ keysOf l ↔ (lastOf l p).isSome = true) ?_ ?_ l
  · intro p; simp [keysOf, keysU, lastOf]
  · intro l u ih p
    rw [keysOf_snoc, List.mem_append, ih, lastOf_snoc]
    unfold keyOf
    by_cases hp : u.f0 = p
    · subst hp
      simp only [if_true, Option.isSome_some, iff_true]
      cases h : (lastOf l u.f0).isSome with
      | true => exact .inl rfl
      | false => exact .inr (by simp)
    · rw [if_neg hp]
      split
      · simp
      · have : ¬ p = u.f0 := fun h => hp h.symm
        simp [this]
theorem keysOf_nodup (l : List S73) : (keysOf l).Nodup := by
  refine snoc_ind (P := fun l => (keysOf l).Nodup) ?_ ?_ l
  · simp [keysOf, keysU]
  · intro l u ih
    rw [keysOf_snoc]
    unfold keyOf
    cases h : (lastOf l u.f0).isSome with
    | true => simpa using ih
    | false =>
      rw [if_neg (by simp), List.nodup_append]
      refine ⟨ih, by simp, ?_⟩
      intro a ha b hb
      simp at hb
      subst hb
      intro hab
      rw [(keysOf_mem l u.f0).1 (hab ▸ ha)] at h
      cases h

/-- The cost of a proper trace if pages are held for an age. -/
def costV (hold win age : Int) (l : List S73) : Int := cntOf l * win + sumG hold win age (gapsOf l) + sumT hold age (endOf l) (lastOf l) (keysOf l)

theorem CostPost.val {hold win age : Int} {l : List S73} {gs : List S52} {w : World} {en : Ending} {w' : World} (hp : gs.Perm (gapsOf l)) (h : CostPost hold win age (endOf l) gs (lastOf l) (cntOf l) w en w') :
    en = .returned (.int .i64 (costV hold win age l)) ∧ Below w.heap.size w w' := by
  obtain ⟨hb, ks, hn, hm, rfl⟩ := h
  refine ⟨?_, hb⟩
  unfold costV
  rw [sumG_perm hp, sumT_perm (nodup_perm hn (keysOf_nodup l) (fun p => by rw [hm p, keysOf_mem]))]

theorem costV_any (base T B : Nat) (lv : Value) (l : List S73) (gs : List S52) (hold win age : Int) (w : World) (hc : chk l = 0) (hp : gs.Perm (gapsOf l)) (hT : TraceAt w base T lv gs (lastOf l) (cntOf l) (endOf l)) (hB : w.heap[B]? = some (.cells #[.int .i64 age] 2 (0, 0)))
    (h0 : 0 ≤ hold) (h1 : hold ≤ 1000) (w0 : 0 ≤ win) (w1 : win ≤ 1000000000) (a0 : 0 ≤ age) :
    Calls Try.prog 22 #[.pointer (some ⟨T, 0, none⟩), .agg #[.int .i64 hold, .int .i64 win], .agg #[.func (.func 43) #[] #[.pointer (some ⟨B, 0, none⟩)]]] w fun en w' => en = .returned (.int .i64 (costV hold win age l)) ∧ Below w.heap.size w w' := by
  obtain ⟨c1, c2, c3⟩ := chk_zero hc
  have tf := tr_facts l c2 c3
  have := gapsOf_len l
  have := tf.cnt
  exact (cost_any T B base lv gs (lastOf l) (cntOf l) (endOf l) hold win age w hT hB h0 h1 w0 w1 a0 (fun g hg => tf.gaps g (hp.mem_iff.1 hg)) (by rw [hp.length_eq]; omega) (by omega) tf.e1 tf.last).mono (fun en w' h => h.val hp)

/-- the error of a trace and costs -/
def bothE (l : List S73) (hold win : Int) : Int := if chk l ≠ 0 then chk l else if outB hold 1000 || outB win 1000000000 then 7 else 0
theorem bothE_zero {l : List S73} {hold win : Int} (h : bothE l hold win = 0) : chk l = 0 ∧ 0 ≤ hold ∧ hold ≤ 1000 ∧ 0 ≤ win ∧ win ≤ 1000000000 := by
  unfold bothE at h
  split at h
  · omega
  · split at h
    · omega
    · rename_i h1 h2
      simp [outB] at h2
      omega
end Go.Proofs.Ytdkfmbammdmohaa.PPolicyCosts

/- Plain facts about a trace: what is bounded, what the order of the gaps and of the pages does not touch. -/
import Derived.Test.YtdkfmbammdmohaaZ5
import Derived.Test.YtdkfmbammdmohaaZ3
import Derived.Deep.RegionWith
namespace Go.Proofs.Ytdkfmbammdmohaa.PPolicyCosts
open Go.RowKit Go.Proofs.YtdkfmbammdmohaaW.PrintWords Go.Proofs.YtdkfmbammdmohaaW.PrintLast Go.Proofs.YtdkfmbammdmohaaW.PrintMore
open Go.Proofs.YtdkfmbammdmohaaM Go.Proofs.YtdkfmbammdmohaaS
set_option linter.unusedVariables false
set_option linter.unusedSimpArgs false

theorem snoc_ind {α : Type} {P : List α → Prop} (h0 : P []) (h1 : ∀ l u, P l → P (l ++ [u])) (l : List α) : P l := by
  have : ∀ n (l : List α), l.length = n → P l := by
    intro n
    induction n with
    | zero => intro l hl; rw [List.eq_nil_of_length_eq_zero hl]; exact h0
    | succ n ih =>
      intro l hl
      rcases List.eq_nil_or_concat l with rfl | ⟨l', u, rfl⟩
      · exact h0
      · rw [List.concat_eq_append] at hl ⊢
        exact h1 l' u (ih l' (by simp at hl; omega))
  exact this _ l rfl

theorem chk_zero {l : List S73} (h : chk l = 0) : l.length ≤ 200 ∧ l.any wrongU = false ∧ okTrace l = true := by
  unfold chk at h
  split at h
  · omega
  · split at h
    · omega
    · rename_i h2
      split at h
      · rename_i h3; exact ⟨by omega, by simpa using h2, h3⟩
      · omega

theorem right_bd {u : S73} (h : wrongU u = false) : 0 ≤ u.f0 ∧ u.f0 < 1024 ∧ 0 ≤ u.f1 ∧ u.f1 ≤ 1000000000 ∧ 0 ≤ u.f2 ∧ u.f2 ≤ 1000000000 ∧ u.f1 < u.f2 := by
  simp [wrongU, outB] at h
  omega

/-- What holds of a proper trace. -/
structure TrFacts (l : List S73) : Prop where
  gaps : ∀ g ∈ gapsOf l, okG g
  last : ∀ p y, lastOf l p = some y → 0 ≤ y ∧ y ≤ endOf l
  e0 : 0 ≤ endOf l
  e1 : endOf l ≤ 1000000000
  cnt : cntOf l ≤ l.length

theorem tr_facts (l : List S73) : l.any wrongU = false → okTrace l = true → TrFacts l := by
  refine snoc_ind (P := fun l => l.any wrongU = false → okTrace l = true → TrFacts l) ?_ ?_ l
  · intro _ _
    exact ⟨by simp [gapsOf, gapsU], by simp [lastOf], by simp [endOf], by simp [endOf], by simp [cntOf, pagesOf]⟩
  · intro l u ih ha ho
    rw [List.any_append, Bool.or_eq_false_iff] at ha
    rw [okTrace_snoc, Bool.and_eq_true] at ho
    obtain ⟨g1, g2, g3, g4, g5⟩ := ih ha.1 ho.1
    have hu := right_bd (u := u) (by simpa using ha.2)
    have hmx : endOf l ≤ mx (endOf l) u.f2 ∧ u.f2 ≤ mx (endOf l) u.f2 ∧ mx (endOf l) u.f2 ≤ 1000000000 := by unfold mx; split <;> omega
    refine ⟨?_, ?_, ?_, ?_, ?_⟩
    · intro g hg
      rw [gapsOf_snoc, List.mem_append] at hg
      rcases hg with hg | hg
      · exact g1 g hg
      · unfold gapOf at hg
        cases hlo : lastOf l u.f0 with
        | none => rw [hlo] at hg; simp at hg
        | some t =>
          rw [hlo] at hg
          simp at hg
          subst hg
          have h2 := ho.2
          unfold okAt at h2
          rw [hlo, Bool.and_eq_true] at h2
          have h3 : t < u.f1 := by simpa using h2.2
          have := g2 _ _ hlo
          exact ⟨by simpa using this.1, h3, by simpa using hu.2.2.2.1⟩
    · intro p y hy
      rw [lastOf_snoc] at hy
      rw [endOf_snoc]
      split at hy
      · injection hy with hy; omega
      · have := g2 p y hy; omega
    · rw [endOf_snoc]; omega
    · rw [endOf_snoc]; omega
    · rw [cntOf_snoc, List.length_append]
      have : ([u] : List S73).length = 1 := rfl
      split <;> omega

theorem sum_perm {l r : List Int} (h : l.Perm r) : l.sum = r.sum := by
  induction h with
  | nil => rfl
  | cons x _ ih => simp [ih]
  | swap x y l => simp; omega
  | trans _ _ h1 h2 => rw [h1, h2]
theorem sumG_perm {hold win age : Int} {gs ds : List S52} (h : gs.Perm ds) : sumG hold win age gs = sumG hold win age ds := sum_perm (h.map _)
theorem sumT_perm {hold age e : Int} {f : Int → Option Int} {ks js : List Int} (h : ks.Perm js) : sumT hold age e f ks = sumT hold age e f js := sum_perm (h.map _)
theorem nodup_perm {ks js : List Int} (h1 : ks.Nodup) (h2 : js.Nodup) (h : ∀ p, p ∈ ks ↔ p ∈ js) : ks.Perm js := by
  rw [List.perm_iff_count]
  intro a
  rw [h1.count, h2.count]
  simp only [h a]

/-- the pages of a trace -/
def keyOf (pre : List S73) (u : S73) : List Int := if (lastOf pre u.f0).isSome then [] else [u.f0]
def keysU : List S73 → List S73 → List Int
  | _, [] => []
  | pre, u :: r => keyOf pre u ++ keysU (pre ++ [u]) r
theorem keysU_snoc (r : List S73) : ∀ (pre : List S73) (u : S73), keysU pre (r ++ [u]) = keysU pre r ++ keyOf (pre ++ r) u := by
  induction r with
  | nil => intro pre u; simp [keysU]
  | cons x r ih => intro pre u; simp [keysU, ih]
def keysOf (l : List S73) : List Int := keysU [] l
theorem keysOf_snoc (l : List S73) (u : S73) : keysOf (l ++ [u]) = keysOf l ++ keyOf l u := by
  unfold keysOf; rw [keysU_snoc]; simp
theorem keysOf_mem (l : List S73) : ∀ p, p ∈ keysOf l ↔ (lastOf l p).isSome = true := by
  refine snoc_ind (P := fun l => ∀ p, p ∈ keysOf l ↔ (lastOf l p).isSome = true) ?_ ?_ l
  · intro p; simp [keysOf, keysU, lastOf]
  · intro l u ih p
    rw [keysOf_snoc, List.mem_append, ih, lastOf_snoc]
    unfold keyOf
    by_cases hp : u.f0 = p
    · subst hp
      simp only [if_true, Option.isSome_some, iff_true]
      cases h : (lastOf l u.f0).isSome with
      | true => exact .inl rfl
      | false => exact .inr (by simp)
    · rw [if_neg hp]
      split
      · simp
      · have : ¬ p = u.f0 := fun h => hp h.symm
        simp [this]
theorem keysOf_nodup (l : List S73) : (keysOf l).Nodup := by
  refine snoc_ind (P := fun l => (keysOf l).Nodup) ?_ ?_ l
  · simp [keysOf, keysU]
  · intro l u ih
    rw [keysOf_snoc]
    unfold keyOf
    cases h : (lastOf l u.f0).isSome with
    | true => simpa using ih
    | false =>
      rw [if_neg (by simp), List.nodup_append]
      refine ⟨ih, by simp, ?_⟩
      intro a ha b hb
      simp at hb
      subst hb
      intro hab
      rw [(keysOf_mem l u.f0).1 (hab ▸ ha)] at h
      cases h

/-- The cost of a proper trace if pages are held for an age. -/
def costV (hold win age : Int) (l : List S73) : Int := cntOf l * win + sumG hold win age (gapsOf l) + sumT hold age (endOf l) (lastOf l) (keysOf l)

theorem CostPost.val {hold win age : Int} {l : List S73} {gs : List S52} {w : World} {en : Ending} {w' : World} (hp : gs.Perm (gapsOf l)) (h : CostPost hold win age (endOf l) gs (lastOf l) (cntOf l) w en w') :
    en = .returned (.int .i64 (costV hold win age l)) ∧ Below w.heap.size w w' := by
  obtain ⟨hb, ks, hn, hm, rfl⟩ := h
  refine ⟨?_, hb⟩
  unfold costV
  rw [sumG_perm hp, sumT_perm (nodup_perm hn (keysOf_nodup l) (fun p => by rw [hm p, keysOf_mem]))]

theorem costV_any (base T B : Nat) (lv : Value) (l : List S73) (gs : List S52) (hold win age : Int) (w : World) (hc : chk l = 0) (hp : gs.Perm (gapsOf l)) (hT : TraceAt w base T lv gs (lastOf l) (cntOf l) (endOf l)) (hB : w.heap[B]? = some (.cells #[.int .i64 age] 2 (0, 0)))
    (h0 : 0 ≤ hold) (h1 : hold ≤ 1000) (w0 : 0 ≤ win) (w1 : win ≤ 1000000000) (a0 : 0 ≤ age) :
    Calls Try.prog 22 #[.pointer (some ⟨T, 0, none⟩), .agg #[.int .i64 hold, .int .i64 win], .agg #[.func (.func 43) #[] #[.pointer (some ⟨B, 0, none⟩)]]] w fun en w' => en = .returned (.int .i64 (costV hold win age l)) ∧ Below w.heap.size w w' := by
  obtain ⟨c1, c2, c3⟩ := chk_zero hc
  have tf := tr_facts l c2 c3
  have := gapsOf_len l
  have := tf.cnt
  exact (cost_any T B base lv gs (lastOf l) (cntOf l) (endOf l) hold win age w hT hB h0 h1 w0 w1 a0 (fun g hg => tf.gaps g (hp.mem_iff.1 hg)) (by rw [hp.length_eq]; omega) (by omega) tf.e1 tf.last).mono (fun en w' h => h.val hp)

/-- the error of a trace and costs -/
def bothE (l : List S73) (hold win : Int) : Int := if chk l ≠ 0 then chk l else if outB hold 1000 || outB win 1000000000 then 7 else 0
theorem bothE_zero {l : List S73} {hold win : Int} (h : bothE l hold win = 0) : chk l = 0 ∧ 0 ≤ hold ∧ hold ≤ 1000 ∧ 0 ≤ win ∧ win ≤ 1000000000 := by
  unfold bothE at h
  split at h
  · omega
  · split at h
    · omega
    · rename_i h1 h2
      simp [outB] at h2
      omega
end Go.Proofs.Ytdkfmbammdmohaa.PPolicyCosts

namespace Go.Proofs.Ytdkfmbammdmohaa.PPolicyCosts
open Go.RowKit Go.Proofs.YtdkfmbammdmohaaW.PrintWords Go.Proofs.YtdkfmbammdmohaaW.PrintLast Go.Proofs.YtdkfmbammdmohaaW.PrintMore
open Go.Proofs.YtdkfmbammdmohaaM Go.Proofs.YtdkfmbammdmohaaS
attribute [local go_sem] max2_int min2_int max_two min_two max_three min_three max_four min_four
set_option linter.unusedVariables false
set_option linter.unusedSimpArgs false

/-- What both comes to. -/
def BothPost (lv : Value) (l : List S73) (hold win : Int) (w : World) (e : Ending) (w' : World) : Prop :=
  Below w.heap.size w w' ∧ ((bothE l hold win ≠ 0 ∧ e = .returned (.tuple #[.pointer none, .int .i64 (bothE l hold win)])) ∨
    (bothE l hold win = 0 ∧ ∃ base T gs, w.heap.size ≤ base ∧ e = .returned (.tuple #[.pointer (some ⟨T, 0, none⟩), .int .i64 0]) ∧ gs.Perm (gapsOf l) ∧ gs.Pairwise (fun x y => decide (cmpGap y x < 0) = false) ∧ TraceAt w' base T lv gs (lastOf l) (cntOf l) (endOf l)))

theorem open_bad (A : Option Addr) (c : Nat) (l : List S73) (w : World) (hC : Kd.C k73 w A l.length l) (hc : l.length ≤ c) (h : chk l ≠ 0) :
    Calls Try.prog 42 #[.slice A l.length c] w fun e w' => e = .returned (.tuple #[.pointer none, .int .i64 (chk l)]) ∧ Below w.heap.size w w' :=
  (open_any A c l w hC hc).mono fun e w' h2 => by
    obtain ⟨hb, hr | hr⟩ := h2
    · exact ⟨hr.2, hb⟩
    · exact absurd hr.1 h
theorem open_ok (A : Option Addr) (c : Nat) (l : List S73) (w : World) (hC : Kd.C k73 w A l.length l) (hc : l.length ≤ c) (h : chk l = 0) :
    Calls Try.prog 42 #[.slice A l.length c] w fun e w' => ∃ T gs, e = .returned (.tuple #[.pointer (some ⟨T, 0, none⟩), .int .i64 0]) ∧ gs.Perm (gapsOf l) ∧ gs.Pairwise (fun x y => decide (cmpGap y x < 0) = false) ∧ TraceAt w' w.heap.size T (.slice A l.length c) gs (lastOf l) (cntOf l) (endOf l) ∧ Below w.heap.size w w' :=
  (open_any A c l w hC hc).mono fun e w' h2 => by
    obtain ⟨hb, hr | ⟨_, T, gs, h1, h2, h3, h4⟩⟩ := h2
    · exact absurd h hr.1
    · exact ⟨T, gs, h1, h2, h3, h4, hb⟩

set_option maxRecDepth 100000 in
set_option maxHeartbeats 4000000 in
theorem both_any (A : Option Addr) (c : Nat) (l : List S73) (hold win : Int) (w : World) (hC : Kd.C k73 w A l.length l) (hc : l.length ≤ c) :
    Calls Try.prog 21 #[.slice A l.length c, .agg #[.int .i64 hold, .int .i64 win]] w (BothPost (.slice A l.length c) l hold win w) := by
  by_cases hck : chk l = 0
  · have HOP := Aside0.mk (open_ok A c l (w.alloc (.cells #[.int .i64 hold, .int .i64 win] 24)) (Kd.C_below hC (below_alloc (Below.refl _ _) _)) hc hck)
    have HBE := Aside0.mk (show bothE l hold win = if outB hold 1000 || outB win 1000000000 then 7 else 0 by unfold bothE; rw [if_neg (by simpa using hck)])
    clear hC hck
    cases ho1 : outB hold 1000 <;> cases ho2 : outB win 1000000000
    all_goals
      go_enter Try.func21, Try.ntmps21
      go_wp2_with (first
        | (go_at_call 42; refine HOP.out.mono ?_; rintro e w1 ⟨T, gs, rfl, hp, hs, hT, hb⟩; have HP := Aside0.mk hp; have HS := Aside0.mk hs; have HT := Aside0.mk hT; have HB := Aside0.mk (below_step (below_alloc (Below.refl _ _) _) hb); have x0 : w1.cell? ⟨w.heap.size, 0, none⟩ = some (.int .i64 hold) := (blk_cell (blk_below (blk_new w _) hb) 0).trans rfl; have x1 : w1.cell? ⟨w.heap.size, 1, none⟩ = some (.int .i64 win) := (blk_cell (blk_below (blk_new w _) hb) 1).trans rfl; clear hp hs hT hb)
        | (go_at_call 24; refine (outside_any _ _ _).mono ?_; rintro e w' ⟨rfl, rfl⟩))
      go_ret2
      first
        | exact ⟨HB.out, .inr ⟨by rw [HBE.out]; simp [ho1, ho2], w.heap.size + 1, T, gs, by omega, rfl, HP.out, HS.out, by have := HT.out; rw [World.size_alloc] at this; exact this⟩⟩
        | exact ⟨HB.out, .inl ⟨by rw [HBE.out]; simp [ho1, ho2], by rw [HBE.out]; simp only [ho1, ho2]; rfl⟩⟩
  · have HOP := Aside0.mk (open_bad A c l (w.alloc (.cells #[.int .i64 hold, .int .i64 win] 24)) (Kd.C_below hC (below_alloc (Below.refl _ _) _)) hc hck)
    have HBE := Aside0.mk (show bothE l hold win = chk l by unfold bothE; rw [if_pos hck])
    have hn : (chk l == 0) = false := by simpa using hck
    clear hC
    generalize chk l = ck at *
    go_enter Try.func21, Try.ntmps21
    go_wp2_with (go_at_call 42; refine HOP.out.mono ?_; rintro e w1 ⟨rfl, hb⟩)
    go_ret2
    exact ⟨below_step (below_alloc (Below.refl _ _) _) hb, .inl ⟨by rw [HBE.out]; exact hck, by rw [HBE.out]; rfl⟩⟩

/-- What Gaps comes to. -/
def GapsPost (l : List S73) (w : World) (e : Ending) (w' : World) : Prop :=
  Below w.heap.size w w' ∧ ((chk l ≠ 0 ∧ e = .returned (.tuple #[.slice none 0 0, .int .i64 (chk l)])) ∨
    (chk l = 0 ∧ ∃ A c gs, e = .returned (.tuple #[.slice A gs.length c, .int .i64 0]) ∧ gs.length ≤ c ∧ gs.Perm (gapsOf l) ∧ gs.Pairwise (fun x y => decide (cmpGap y x < 0) = false) ∧ Kd.C k52 w' A gs.length gs))
theorem gapsF_any (A : Option Addr) (c : Nat) (l : List S73) (w : World) (hC : Kd.C k73 w A l.length l) (hc : l.length ≤ c) :
    Calls Try.prog 17 #[.slice A l.length c] w (GapsPost l w) := by
  by_cases hck : chk l = 0
  · have HOP := Aside0.mk (open_ok A c l w hC hc hck)
    have HCK := Aside0.mk hck
    clear hC hck
    go_enter Try.func17, Try.ntmps17
    go_wp2_with (go_at_call 42; refine HOP.out.mono ?_; rintro e w1 ⟨T, gs, rfl, hp, hs, ⟨gv, M, hb1, hT, hG, hMb, hM⟩, hb⟩; have x1 := (blk_cell hT 1).trans (rfl : _ = some gv); obtain ⟨Ag, cg, rfl, hcg, hCg⟩ := own_C52 hG; have HP := Aside0.mk hp; have HS := Aside0.mk hs; have HB := Aside0.mk hb; have HG := Aside0.mk hCg; clear hp hs hT hb hM hG hCg)
    go_ret2
    exact ⟨HB.out, .inr ⟨HCK.out, Ag, cg, gs, rfl, hcg, HP.out, HS.out, HG.out⟩⟩
  · have HOP := Aside0.mk (open_bad A c l w hC hc hck)
    have HCK := Aside0.mk hck
    have hn : (chk l == 0) = false := by simpa using hck
    clear hC
    unfold GapsPost
    generalize chk l = ck at *
    go_enter Try.func17, Try.ntmps17
    go_wp2_with (go_at_call 42; refine HOP.out.mono ?_; rintro e w1 ⟨rfl, hb⟩)
    go_ret2
    exact ⟨hb, .inl ⟨HCK.out, rfl⟩⟩
end Go.Proofs.Ytdkfmbammdmohaa.PPolicyCosts

namespace Go.Proofs.Ytdkfmbammdmohaa.PPolicyCosts
open Go.RowKit Go.Proofs.YtdkfmbammdmohaaW.PrintWords Go.Proofs.YtdkfmbammdmohaaW.PrintLast Go.Proofs.YtdkfmbammdmohaaW.PrintMore
open Go.Proofs.YtdkfmbammdmohaaM Go.Proofs.YtdkfmbammdmohaaS
attribute [local go_sem] max2_int min2_int max_two min_two max_three min_three max_four min_four
set_option linter.unusedVariables false
set_option linter.unusedSimpArgs false

theorem both_bad (A : Option Addr) (c : Nat) (l : List S73) (hold win : Int) (w : World) (hC : Kd.C k73 w A l.length l) (hc : l.length ≤ c) (h : bothE l hold win ≠ 0) :
    Calls Try.prog 21 #[.slice A l.length c, .agg #[.int .i64 hold, .int .i64 win]] w fun e w' => e = .returned (.tuple #[.pointer none, .int .i64 (bothE l hold win)]) ∧ Below w.heap.size w w' :=
  (both_any A c l hold win w hC hc).mono fun e w' h2 => by
    obtain ⟨hb, hr | hr⟩ := h2
    · exact ⟨hr.2, hb⟩
    · exact absurd hr.1 h
theorem both_ok (A : Option Addr) (c : Nat) (l : List S73) (hold win : Int) (w : World) (hC : Kd.C k73 w A l.length l) (hc : l.length ≤ c) (h : bothE l hold win = 0) :
    Calls Try.prog 21 #[.slice A l.length c, .agg #[.int .i64 hold, .int .i64 win]] w fun e w' => ∃ T base gs, e = .returned (.tuple #[.pointer (some ⟨T, 0, none⟩), .int .i64 0]) ∧ gs.Perm (gapsOf l) ∧ gs.Pairwise (fun x y => decide (cmpGap y x < 0) = false) ∧ TraceAt w' base T (.slice A l.length c) gs (lastOf l) (cntOf l) (endOf l) ∧ Below w.heap.size w w' :=
  (both_any A c l hold win w hC hc).mono fun e w' h2 => by
    obtain ⟨hb, hr | ⟨_, base, T, gs, _, h1, h2, h3, h4⟩⟩ := h2
    · exact absurd h hr.1
    · exact ⟨T, base, gs, h1, h2, h3, h4, hb⟩

def polOK (kind age most : Int) : Bool := (kind == 1 && age == 0 && most == 0) || (kind == 2 && age == 0 && most == 0) || (kind == 3 && !outB age 1000000000 && most == 0) || (kind == 4 && age == 0 && !outB most 1024)
/-- What Cost says of a proper trace and policy. -/
def CostV (l : List S73) (hold win kind age most v : Int) : Prop :=
  (kind = 1 ∧ v = costV hold win 1000000000 l) ∨ (kind = 2 ∧ v = costV hold win 0 l) ∨ (kind = 3 ∧ v = costV hold win age l) ∨
    (kind = 4 ∧ ∃ ss : List S90, ss.Perm (stepsOf l) ∧ ss.Pairwise (fun x y => ltOf cmpStep y x = false) ∧ v = mostQ hold win most (endOf l) ss)
def CostPo (l : List S73) (hold win kind age most : Int) (w : World) (en : Ending) (w' : World) : Prop :=
  Below w.heap.size w w' ∧ ((bothE l hold win ≠ 0 ∧ en = .returned (.tuple #[.int .i64 0, .int .i64 (bothE l hold win)])) ∨
    (bothE l hold win = 0 ∧ polOK kind age most = false ∧ en = .returned (.tuple #[.int .i64 0, .int .i64 2])) ∨
    (bothE l hold win = 0 ∧ polOK kind age most = true ∧ ∃ v, en = .returned (.tuple #[.int .i64 v, .int .i64 0]) ∧ CostV l hold win kind age most v))

def F9 (T base : Nat) (lv : Value) (gs : List S52) (l : List S73) (hold win kind age most : Int) (w W : World) : Prop :=
  Below w.heap.size w W ∧ W.heap[w.heap.size]? = some (.cells #[.int .i64 hold, .int .i64 win] 24 (0, 0)) ∧ W.heap[w.heap.size + 1]? = some (.cells #[.int .i64 kind, .int .i64 age, .int .i64 most] 26 (0, 0)) ∧ TraceAt W base T lv gs (lastOf l) (cntOf l) (endOf l)
theorem F9.step {T base : Nat} {lv : Value} {gs : List S52} {l : List S73} {hold win kind age most : Int} {w W W' : World} (h : F9 T base lv gs l hold win kind age most w W) (hb : Below W.heap.size W W') : F9 T base lv gs l hold win kind age most w W' :=
  ⟨below_step h.1 hb, blk_below h.2.1 hb, blk_below h.2.2.1 hb, h.2.2.2.below hb⟩

set_option maxRecDepth 100000 in
set_option maxHeartbeats 8000000 in
theorem costF_any (A : Option Addr) (c : Nat) (l : List S73) (hold win kind age most : Int) (w : World) (hC : Kd.C k73 w A l.length l) (hc : l.length ≤ c) :
    Calls Try.prog 9 #[.slice A l.length c, .agg #[.int .i64 hold, .int .i64 win], .agg #[.int .i64 kind, .int .i64 age, .int .i64 most]] w (CostPo l hold win kind age most w) := by
  have hCx := Kd.C_below hC (below_alloc (below_alloc (Below.refl w.heap.size w) (.cells #[.int .i64 hold, .int .i64 win] 24)) (.cells #[.int .i64 kind, .int .i64 age, .int .i64 most] 26))
  have hbx : Below w.heap.size w ((w.alloc (.cells #[.int .i64 hold, .int .i64 win] 24)).alloc (.cells #[.int .i64 kind, .int .i64 age, .int .i64 most] 26)) := below_alloc (below_alloc (Below.refl w.heap.size w) _) _
  by_cases hbe : bothE l hold win = 0
  · have HOP := Aside0.mk (both_ok A c l hold win _ hCx hc hbe)
    have HBE := Aside0.mk hbe
    obtain ⟨hck, b0, b1, b2, b3⟩ := bothE_zero hbe
    have HCK := Aside0.mk hck
    have HBX := Aside0.mk hbx
    have HCC := Aside0.mk hC
    have HY := Aside0.mk (blk_alloc (blk_new w (.cells #[.int .i64 hold, .int .i64 win] 24)) (.cells #[.int .i64 kind, .int .i64 age, .int .i64 most] 26))
    have HZ := Aside0.mk (blk_new (w.alloc (.cells #[.int .i64 hold, .int .i64 win] 24)) (.cells #[.int .i64 kind, .int .i64 age, .int .i64 most] 26))
    clear hCx hC hbe hck hbx
    go_enter Try.func9, Try.ntmps9
    go_wp2_with (go_at_call 21; refine HOP.out.mono ?_; rintro e w1 ⟨T, base, gs, rfl, hp, hs, hT, hb⟩)
    have HP := Aside0.mk hp
    refine genW (F9 T base (.slice A l.length c) gs l hold win kind age most w) ⟨below_step HBX.out hb, blk_below HY.out hb, by have := blk_below HZ.out hb; rw [World.size_alloc] at this; exact this, hT⟩ ?_
    clear hp hs hT hb HY HZ HOP HBX
    rintro wq ⟨hb, hY, hZ, hT⟩
    have z1 : wq.cell? ⟨w.heap.size + 1, 1, none⟩ = some (.int .i64 age) := (blk_cell hZ 1).trans rfl
    have z2 : wq.cell? ⟨w.heap.size + 1, 2, none⟩ = some (.int .i64 most) := (blk_cell hZ 2).trans rfl
    have HF := Aside0.mk (show F9 T base (.slice A l.length c) gs l hold win kind age most w wq from ⟨hb, hY, hZ, hT⟩)
    clear hb hY hZ hT
    go_quiet (fail)
    refine genW (F9 T base (.slice A l.length c) gs l hold win kind age most w) (HF.out.step (pw_below_drewN (Below.refl _ _) _)) ?_
    clear z1 z2 HF
    intro wq hF
    have HF := Aside0.mk hF
    have y0 : wq.cell? ⟨w.heap.size, 0, none⟩ = some (.int .i64 hold) := (blk_cell hF.2.1 0).trans rfl
    have y1 : wq.cell? ⟨w.heap.size, 1, none⟩ = some (.int .i64 win) := (blk_cell hF.2.1 1).trans rfl
    have z0 : wq.cell? ⟨w.heap.size + 1, 0, none⟩ = some (.int .i64 kind) := (blk_cell hF.2.2.1 0).trans rfl
    clear hF
    by_cases hk1 : kind = 1
    · subst hk1
      by_cases ha : age = 0
      · subst ha
        by_cases hm : most = 0
        · subst hm
          have HPO := Aside0.mk (show polOK 1 0 0 = true by decide)
          go_wp2_with (go_at_call 24; refine (outside_any _ _ _).mono ?_; rintro e w' ⟨rfl, rfl⟩)
          go_region_with (first
            | (go_at_call 23; refine (aged_any _ _).mono ?_; rintro e w3 ⟨B, rfl, hsz, hcB, hb3⟩; have HF3 := Aside0.mk ((HF.out.step (by repeat (first | exact Below.refl _ _ | apply below_drew | apply pw_below_drewN))).step hb3); have y0 : w3.cell? ⟨w.heap.size, 0, none⟩ = some (.int .i64 hold) := (blk_cell HF3.out.2.1 0).trans rfl; have y1 : w3.cell? ⟨w.heap.size, 1, none⟩ = some (.int .i64 win) := (blk_cell HF3.out.2.1 1).trans rfl; have HCB := Aside0.mk hcB; clear hcB hb3 hsz)
            | (go_at_call 22; refine (costV_any base T B _ l gs hold win _ _ HCK.out HP.out HF3.out.2.2.2 HCB.out b0 b1 b2 b3 (by omega)).mono ?_; rintro e w4 ⟨rfl, hb4⟩))
          all_goals
            go_wp2
            go_ret2
            exact ⟨below_step HF3.out.1 hb4, .inr (.inr ⟨HBE.out, HPO.out, _, rfl, .inl ⟨rfl, rfl⟩⟩)⟩
        · have hm2 : (most == 0) = false := by simpa using hm
          have HPO := Aside0.mk (show polOK 1 0 most = false by simp [polOK, hm])
          go_wp2_with (go_at_call 24; refine (outside_any _ _ _).mono ?_; rintro e w' ⟨rfl, rfl⟩)
          all_goals
            go_ret2
            exact ⟨HF.out.1, .inr (.inl ⟨HBE.out, HPO.out, rfl⟩)⟩
      · have ha2 : (age == 0) = false := by simpa using ha
        have HPO := Aside0.mk (show polOK 1 age most = false by simp [polOK, ha])
        go_wp2_with (go_at_call 24; refine (outside_any _ _ _).mono ?_; rintro e w' ⟨rfl, rfl⟩)
        all_goals
          go_ret2
          exact ⟨HF.out.1, .inr (.inl ⟨HBE.out, HPO.out, rfl⟩)⟩
    by_cases hk2 : kind = 2
    · subst hk2
      by_cases ha : age = 0
      · subst ha
        by_cases hm : most = 0
        · subst hm
          have HPO := Aside0.mk (show polOK 2 0 0 = true by decide)
          go_wp2_with (go_at_call 24; refine (outside_any _ _ _).mono ?_; rintro e w' ⟨rfl, rfl⟩)
          go_region_with (first
            | (go_at_call 23; refine (aged_any _ _).mono ?_; rintro e w3 ⟨B, rfl, hsz, hcB, hb3⟩; have HF3 := Aside0.mk ((HF.out.step (by repeat (first | exact Below.refl _ _ | apply below_drew | apply pw_below_drewN))).step hb3); have y0 : w3.cell? ⟨w.heap.size, 0, none⟩ = some (.int .i64 hold) := (blk_cell HF3.out.2.1 0).trans rfl; have y1 : w3.cell? ⟨w.heap.size, 1, none⟩ = some (.int .i64 win) := (blk_cell HF3.out.2.1 1).trans rfl; have HCB := Aside0.mk hcB; clear hcB hb3 hsz)
            | (go_at_call 22; refine (costV_any base T B _ l gs hold win _ _ HCK.out HP.out HF3.out.2.2.2 HCB.out b0 b1 b2 b3 (by omega)).mono ?_; rintro e w4 ⟨rfl, hb4⟩))
          all_goals
            go_wp2
            go_ret2
            exact ⟨below_step HF3.out.1 hb4, .inr (.inr ⟨HBE.out, HPO.out, _, rfl, .inr (.inl ⟨rfl, rfl⟩)⟩)⟩
        · have hm2 : (most == 0) = false := by simpa using hm
          have HPO := Aside0.mk (show polOK 2 0 most = false by simp [polOK, hm])
          go_wp2_with (go_at_call 24; refine (outside_any _ _ _).mono ?_; rintro e w' ⟨rfl, rfl⟩)
          all_goals
            go_ret2
            exact ⟨HF.out.1, .inr (.inl ⟨HBE.out, HPO.out, rfl⟩)⟩
      · have ha2 : (age == 0) = false := by simpa using ha
        have HPO := Aside0.mk (show polOK 2 age most = false by simp [polOK, ha])
        go_wp2_with (go_at_call 24; refine (outside_any _ _ _).mono ?_; rintro e w' ⟨rfl, rfl⟩)
        all_goals
          go_ret2
          exact ⟨HF.out.1, .inr (.inl ⟨HBE.out, HPO.out, rfl⟩)⟩
    by_cases hk3 : kind = 3
    · subst hk3
      cases ha : outB age 1000000000 with
      | false =>
        have a0 : 0 ≤ age := by simp [outB] at ha; omega
        by_cases hm : most = 0
        · subst hm
          have HPO := Aside0.mk (show polOK 3 age 0 = true by simp [polOK, ha])
          go_wp2_with (go_at_call 24; refine (outside_any _ _ _).mono ?_; rintro e w' ⟨rfl, rfl⟩)
          go_region_with (first
            | (go_at_call 23; refine (aged_any _ _).mono ?_; rintro e w3 ⟨B, rfl, hsz, hcB, hb3⟩; have HF3 := Aside0.mk ((HF.out.step (by repeat (first | exact Below.refl _ _ | apply below_drew | apply pw_below_drewN))).step hb3); have y0 : w3.cell? ⟨w.heap.size, 0, none⟩ = some (.int .i64 hold) := (blk_cell HF3.out.2.1 0).trans rfl; have y1 : w3.cell? ⟨w.heap.size, 1, none⟩ = some (.int .i64 win) := (blk_cell HF3.out.2.1 1).trans rfl; have HCB := Aside0.mk hcB; clear hcB hb3 hsz)
            | (go_at_call 22; refine (costV_any base T B _ l gs hold win _ _ HCK.out HP.out HF3.out.2.2.2 HCB.out b0 b1 b2 b3 (by omega)).mono ?_; rintro e w4 ⟨rfl, hb4⟩))
          all_goals
            go_wp2
            go_ret2
            exact ⟨below_step HF3.out.1 hb4, .inr (.inr ⟨HBE.out, HPO.out, _, rfl, .inr (.inr (.inl ⟨rfl, rfl⟩))⟩)⟩
        · have hm2 : (most == 0) = false := by simpa using hm
          have HPO := Aside0.mk (show polOK 3 age most = false by simp [polOK, hm])
          go_wp2_with (go_at_call 24; refine (outside_any _ _ _).mono ?_; rintro e w' ⟨rfl, rfl⟩)
          all_goals
            go_ret2
            exact ⟨HF.out.1, .inr (.inl ⟨HBE.out, HPO.out, rfl⟩)⟩
      | true =>
        have HPO := Aside0.mk (show polOK 3 age most = false by simp [polOK, ha])
        go_wp2_with (go_at_call 24; refine (outside_any _ _ _).mono ?_; rintro e w' ⟨rfl, rfl⟩)
        all_goals
          go_ret2
          exact ⟨HF.out.1, .inr (.inl ⟨HBE.out, HPO.out, rfl⟩)⟩
    by_cases hk4 : kind = 4
    · subst hk4
      by_cases ha : age = 0
      · subst ha
        cases hm : outB most 1024 with
        | false =>
          have HPO := Aside0.mk (show polOK 4 0 most = true by simp [polOK, hm])
          have m0 : 0 ≤ most := by simp [outB] at hm; omega
          have hgl := chk_zero HCK.out
          have hmw : ∀ W, F9 T base (.slice A l.length c) gs l hold win 4 0 most w W → _ := fun W hW => most_any T base A c l gs (lastOf l) (cntOf l) (endOf l) hold win most W hW.2.2.2 (Kd.C_below HCC.out hW.1) hgl.1 m0
          have HMW := Aside0.mk hmw
          clear hgl hmw
          go_wp2_with (first
            | (go_at_call 24; refine (outside_any _ _ _).mono ?_; rintro e w' ⟨rfl, rfl⟩)
            | (go_at_call 25; refine (HMW.out _ HF.out).mono ?_; rintro e w4 ⟨hb4, ss, hss, hso, rfl⟩; have HSS := Aside0.mk hss; have HSO := Aside0.mk hso; clear hss hso))
          all_goals
            go_ret2
            exact ⟨below_step HF.out.1 hb4, .inr (.inr ⟨HBE.out, HPO.out, _, rfl, .inr (.inr (.inr ⟨rfl, ss, HSS.out, HSO.out, rfl⟩))⟩)⟩
        | true =>
          have HPO := Aside0.mk (show polOK 4 0 most = false by simp [polOK, hm])
          go_wp2_with (go_at_call 24; refine (outside_any _ _ _).mono ?_; rintro e w' ⟨rfl, rfl⟩)
          all_goals
            go_ret2
            exact ⟨HF.out.1, .inr (.inl ⟨HBE.out, HPO.out, rfl⟩)⟩
      · have ha2 : (age == 0) = false := by simpa using ha
        have HPO := Aside0.mk (show polOK 4 age most = false by simp [polOK, ha])
        go_wp2_with (go_at_call 24; refine (outside_any _ _ _).mono ?_; rintro e w' ⟨rfl, rfl⟩)
        all_goals
          go_ret2
          exact ⟨HF.out.1, .inr (.inl ⟨HBE.out, HPO.out, rfl⟩)⟩
    · have e1 : (kind == 1) = false := by simpa using hk1
      have e2 : (kind == 2) = false := by simpa using hk2
      have e3 : (kind == 3) = false := by simpa using hk3
      have e4 : (kind == 4) = false := by simpa using hk4
      have HPO := Aside0.mk (show polOK kind age most = false by simp [polOK, hk1, hk2, hk3, hk4])
      go_wp2_with (go_at_call 24; refine (outside_any _ _ _).mono ?_; rintro e w' ⟨rfl, rfl⟩)
      all_goals
        go_ret2
        exact ⟨HF.out.1, .inr (.inl ⟨HBE.out, HPO.out, rfl⟩)⟩
  · have HOP := Aside0.mk (both_bad A c l hold win _ hCx hc hbe)
    have HBE := Aside0.mk hbe
    have HBX := Aside0.mk hbx
    have hn : (bothE l hold win == 0) = false := by simpa using hbe
    clear hCx hC hbx
    unfold CostPo
    generalize bothE l hold win = be at *
    go_enter Try.func9, Try.ntmps9
    go_wp2_with (go_at_call 21; refine HOP.out.mono ?_; rintro e w1 ⟨rfl, hb⟩)
    go_ret2
    exact ⟨below_step HBX.out hb, .inl ⟨HBE.out, rfl⟩⟩
end Go.Proofs.Ytdkfmbammdmohaa.PPolicyCosts

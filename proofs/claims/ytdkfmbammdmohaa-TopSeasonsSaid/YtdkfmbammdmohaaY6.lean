/- The uses of uses31 are a trace of three pages. -/
import Derived.Test.YtdkfmbammdmohaaY5
namespace Go.Proofs.Ytdkfmbammdmohaa.PPolicyCosts
open Go.RowKit Go.Proofs.YtdkfmbammdmohaaW.PrintWords Go.Proofs.YtdkfmbammdmohaaW.PrintLast Go.Proofs.YtdkfmbammdmohaaW.PrintMore
open Go.Proofs.YtdkfmbammdmohaaM Go.Proofs.YtdkfmbammdmohaaS
set_option linter.unusedVariables false
set_option linter.unusedSimpArgs false

theorem uses_tr3 (xs : List S86) (k : Nat) (hk : k ≤ 8) : Tr3 (usesR xs k).l := by
  have h := usesR_ok xs k
  have hr := usesR_right xs k hk
  have hs := List.pairwise_iff_getElem.1 h.srt
  have hd := List.pairwise_iff_getElem.1 h.dis
  refine ⟨?_, ?_, hr⟩
  · refine List.pairwise_iff_getElem.2 (fun i j hi hj hij => ?_)
    have := hs i j hi hj hij
    unfold ltU at this
    omega
  · refine List.pairwise_iff_getElem.2 (fun i j hi hj hij he => ?_)
    have h1 := hs i j hi hj hij
    have h2 := hr _ (List.getElem_mem hi)
    have h3 := hr _ (List.getElem_mem hj)
    rcases hd i j hi hj hij he with h4 | h4
    · exact h4
    · exfalso
      apply h1
      unfold ltU
      omega
end Go.Proofs.Ytdkfmbammdmohaa.PPolicyCosts

namespace Go.Proofs.Ytdkfmbammdmohaa.PPolicyCosts
open Go.RowKit Go.Proofs.YtdkfmbammdmohaaW.PrintWords Go.Proofs.YtdkfmbammdmohaaW.PrintLast Go.Proofs.YtdkfmbammdmohaaW.PrintMore
open Go.Proofs.YtdkfmbammdmohaaM Go.Proofs.YtdkfmbammdmohaaS
set_option linter.unusedVariables false
set_option linter.unusedSimpArgs false

theorem gaps_few {l : List S73} (h : Tr3 l) (ho : okTrace l = true) : ∀ g ∈ gapsOf l, fewG g := by
  intro g hg
  obtain ⟨t, h1, h2, h3⟩ := (gaps_inv l (fun u hu => (h.rng u hu).2.2.2.1) ho).1 g hg
  obtain ⟨a, ha, _, h5⟩ := lastOf_mem _ _ _ h1
  have hr := h.rng a ha
  have hf : g ∈ frontG l := (front_gaps l).mem_iff.2 hg
  have hpos : ∀ (l : List S73), (∀ u ∈ l, 0 ≤ u.f2) → ∀ g ∈ frontG l, 0 ≤ g.f1 := by
    intro l
    induction l with
    | nil => intro _ g hg; simp [frontG] at hg
    | cons a r ih =>
      intro hr g hg
      rw [frontG] at hg
      rcases List.mem_append.1 hg with hg | hg
      · unfold frG at hg
        split at hg
        · simp at hg
        · obtain rfl : g = _ := by simpa using hg
          exact hr a (by simp)
      · exact ih (fun u hu => hr u (by simp [hu])) g hg
  have := hpos l (fun u hu => by have := h.rng u hu; omega) g hf
  exact ⟨this, h2, by omega⟩
theorem gapsR_few {l : List S73} (h : Tr3 l) (ho : okTrace l = true) : ∀ g ∈ gapsR l l.length, fewG g :=
  fun g hg => gaps_few h ho g ((gapsR_is l).1.mem_iff.1 hg)
end Go.Proofs.Ytdkfmbammdmohaa.PPolicyCosts

namespace Go.Proofs.Ytdkfmbammdmohaa.PPolicyCosts
open Go.RowKit Go.Proofs.YtdkfmbammdmohaaW.PrintWords Go.Proofs.YtdkfmbammdmohaaW.PrintLast Go.Proofs.YtdkfmbammdmohaaW.PrintMore
open Go.Proofs.YtdkfmbammdmohaaM Go.Proofs.YtdkfmbammdmohaaS
set_option linter.unusedVariables false
set_option linter.unusedSimpArgs false

theorem costV_in {l : List S73} {hold win age : Int} (hb : bothE l hold win = 0) (hl8 : l.length ≤ 8) (a0 : 0 ≤ age) : wrap64 (costV hold win age l) = costV hold win age l := by
  obtain ⟨hck, h0, h1, w0, w1⟩ := bothE_zero hb
  obtain ⟨hl, c2, c3⟩ := chk_zero hck
  have tf := tr_facts l c2 c3
  have b1 := sumG_bd h0 h1 w0 w1 a0 (gapsOf l) tf.gaps
  have b2 := sumT_bd h0 h1 a0 tf.e1 tf.last (keysOf l) (fun p hp => (keysOf_mem l p).1 hp)
  have hgl := gapsOf_len l
  have hcn := tf.cnt
  have hkl : (keysOf l).length ≤ 8 := by
    have : (keysOf l).length = cntOf l := by
      refine snoc_ind (P := fun l => (keysOf l).length = cntOf l) rfl ?_ l
      intro l u ih
      rw [keysOf_snoc, cntOf_snoc, List.length_append, ih]
      unfold keyOf
      cases (lastOf l u.f0).isSome <;> simp
    omega
  have m1 := mul_bd (a := (cntOf l : Int)) (b := win) (A := 8) (B := 1000000000) (by omega) (by omega) w0 w1
  unfold costV
  generalize (cntOf l : Int) * win = x at *
  unfold wrap64
  omega
end Go.Proofs.Ytdkfmbammdmohaa.PPolicyCosts

namespace Go.Proofs.Ytdkfmbammdmohaa.PPolicyCosts
open Go.RowKit Go.Proofs.YtdkfmbammdmohaaW.PrintWords Go.Proofs.YtdkfmbammdmohaaW.PrintLast Go.Proofs.YtdkfmbammdmohaaW.PrintMore
open Go.Proofs.YtdkfmbammdmohaaM Go.Proofs.YtdkfmbammdmohaaS
set_option linter.unusedVariables false
set_option linter.unusedSimpArgs false

theorem w_add (a b : Int) : wrap64 (wrap64 a + b) = wrap64 (a + b) := by unfold wrap64; omega
theorem w_add2 (a b : Int) : wrap64 (wrap64 a + wrap64 b) = wrap64 (a + b) := by unfold wrap64; omega
theorem w_q (d : Int) : ∃ q : Int, wrap64 d = d + 18446744073709551616 * q := by
  refine ⟨-((d + 9223372036854775808) / 18446744073709551616), ?_⟩
  unfold wrap64
  omega
theorem w_mul (d h : Int) : wrap64 (wrap64 d * h) = wrap64 (d * h) := by
  obtain ⟨q, hq⟩ := w_q d
  rw [hq, Int.add_mul, Int.mul_assoc]
  generalize d * h = x
  generalize q * h = y
  unfold wrap64
  omega
theorem w_pay (N d h : Int) : wrap64 (wrap64 N + wrap64 (wrap64 d * h)) = wrap64 (N + d * h) := by rw [w_mul, w_add2]
theorem rd98_is (l : List S98) (k : Nat) (h : k < l.length) : rd_T98 l (k : Int) = l[k] := by
  unfold rd_T98
  rw [Int.toNat_natCast, List.getD_eq_getElem?_getD, List.getElem?_eq_getElem h]
  rfl
theorem rd90_is (l : List S90) (k : Nat) (h : k < l.length) : rd_T90 l (k : Int) = l[k] := by
  unfold rd_T90
  rw [Int.toNat_natCast, List.getD_eq_getElem?_getD, List.getElem?_eq_getElem h]
  rfl

/-! The code's steps without wraps. -/
def evictX (hold a limit : Int) : Int → List S98 → Int × List S98
  | n, [] => (n, [])
  | n, x :: q => if limit < ((x :: q).length : Int) then evictX hold a limit (n + (a - x.f0) * hold) q else (n, x :: q)
theorem evict_wrap (hold a limit : Int) : ∀ (q : List S98) (N : Int), evict hold a limit (wrap64 N) q = (wrap64 (evictX hold a limit N q).1, (evictX hold a limit N q).2)
  | [], N => rfl
  | x :: q, N => by
    rw [evict, evictX]
    split
    · rw [w_pay]; exact evict_wrap hold a limit q _
    · rfl
theorem evictX_stop (hold a limit N : Int) (q : List S98) (h : (q.length : Int) ≤ limit) : evictX hold a limit N q = (N, q) := by
  cases q with
  | nil => rfl
  | cons x q => rw [evictX, if_neg (by omega)]
def beginX (hold win t : Int) (st : Int × List S98) (p : Int) : Int × List S98 :=
  match st.2.findIdx? (fun y => y.f1 == p) with
  | none => (st.1 + win, st.2)
  | some i => (st.1 + (t - (rd_T98 st.2 (i : Int)).f0) * hold, st.2.eraseIdx i)
def stepX (hold win limit : Int) (lastT : Bool) (s : S90) (st : Int × List S98) : Int × List S98 :=
  if s.f1 = true then beginX hold win s.f0 st s.f2
  else if lastT = true then evictX hold s.f0 limit st.1 (st.2 ++ [⟨s.f0, s.f2⟩]) else (st.1, st.2 ++ [⟨s.f0, s.f2⟩])
theorem step_wrap (hold win limit : Int) (b : Bool) (s : S90) (N : Int) (q : List S98) : stepQ hold win limit b s (wrap64 N, q) = (wrap64 (stepX hold win limit b s (N, q)).1, (stepX hold win limit b s (N, q)).2) := by
  unfold stepQ stepX
  split
  · unfold beginX idxW
    simp only
    cases hq : q.findIdx? (fun y => y.f1 == s.f2) with
    | none => simp only; rw [if_pos (by omega), w_add]
    | some i => simp only; rw [if_neg (by omega), w_pay, Int.toNat_natCast]
  · split
    · exact evict_wrap hold s.f0 limit _ N
    · rfl
def lastL (s : S90) : List S90 → Bool
  | [] => true
  | y :: _ => decide (y.f0 > s.f0)
def runX (hold win limit : Int) : Int × List S98 → List S90 → Int × List S98
  | st, [] => st
  | st, s :: r => runX hold win limit (stepX hold win limit (lastL s r) s st) r
theorem lastAt_is (ss : List S90) (i : Nat) (h : i < ss.length) : lastAt ss i = lastL ss[i] (ss.drop (i + 1)) := by
  unfold lastAt
  by_cases h2 : i + 1 < ss.length
  · have e : ss.drop (i + 1) = ss[i + 1] :: ss.drop (i + 2) := List.drop_eq_getElem_cons h2
    have e1 : ((i : Int) + 1) = ((i + 1 : Nat) : Int) := rfl
    rw [e, e1, rd90_is ss _ h2, rd90_is ss i h]
    have e2 : decide (i + 1 = ss.length) = false := decide_eq_false (by omega)
    rw [e2, Bool.false_or]
    rfl
  · have e : ss.drop (i + 1) = [] := by rw [List.drop_eq_nil_iff]; omega
    have e2 : decide (i + 1 = ss.length) = true := decide_eq_true (by omega)
    rw [e, e2, Bool.true_or]
    rfl
theorem runQ_runX0 (hold win limit : Int) (ss : List S90) : ∀ k : Nat, k ≤ ss.length → ∃ st : Int × List S98, runQ hold win limit ss k = (wrap64 st.1, st.2) ∧ runX hold win limit st (ss.drop k) = runX hold win limit (0, []) ss
  | 0, _ => ⟨(0, []), by
      have e0 : wrap64 0 = 0 := by unfold wrap64; omega
      simp only [e0]
      rfl, by rw [List.drop_zero]⟩
  | k + 1, hk => by
    obtain ⟨st, h1, h2⟩ := runQ_runX0 hold win limit ss k (by omega)
    have hkl : k < ss.length := by omega
    refine ⟨stepX hold win limit (lastL ss[k] (ss.drop (k + 1))) ss[k] st, ?_, ?_⟩
    · rw [runQ, h1, step_wrap, rd90_is ss k hkl, lastAt_is ss k hkl]
    · rw [← h2, List.drop_eq_getElem_cons hkl, runX]
theorem runQ_runX (hold win limit : Int) (ss : List S90) : runQ hold win limit ss ss.length = (wrap64 (runX hold win limit (0, []) ss).1, (runX hold win limit (0, []) ss).2) := by
  obtain ⟨st, h1, h2⟩ := runQ_runX0 hold win limit ss ss.length (Nat.le_refl _)
  rw [List.drop_length, runX] at h2
  rw [h1, h2]
def tailX (e hold : Int) (q : List S98) : Int := (q.map fun x => (e - x.f0) * hold).sum
theorem tail_wrap (hold e : Int) : ∀ (q : List S98) (N : Int), tailQ hold e (wrap64 N) q = wrap64 (N + tailX e hold q)
  | [], N => by simp [tailQ, tailX]
  | x :: q, N => by
    have h := tail_wrap hold e q (N + (e - x.f0) * hold)
    have e1 : tailQ hold e (wrap64 N) (x :: q) = tailQ hold e (wrap64 (wrap64 N + wrap64 (wrap64 (e - x.f0) * hold))) q := rfl
    rw [e1, w_pay, h]
    simp only [tailX, List.map_cons, List.sum_cons, Int.add_assoc]
theorem mostQ_is (hold win limit e : Int) (ss : List S90) : mostQ hold win limit e ss = wrap64 ((runX hold win limit (0, []) ss).1 + tailX e hold (runX hold win limit (0, []) ss).2) := by
  unfold mostQ
  rw [runQ_runX]
  exact tail_wrap hold e _ _

theorem runX_begins (hold win limit t : Int) (R : List S90) : ∀ (B : List S73) (st : Int × List S98), runX hold win limit st (B.map (fun u => (⟨t, true, u.f0⟩ : S90)) ++ R) = runX hold win limit (B.foldl (fun st u => beginX hold win t st u.f0) st) R
  | [], st => rfl
  | u :: B, st => by
    rw [List.map_cons, List.cons_append, runX, List.foldl_cons, ← runX_begins hold win limit t R B]
    rfl
def wQ (s : S90) : S98 := ⟨s.f0, s.f2⟩
theorem lastL_new (s : S90) (R : List S90) (h : ∀ y ∈ R, s.f0 < y.f0) : lastL s R = true := by
  cases R with
  | nil => rfl
  | cons y R => exact decide_eq_true (h y (by simp))
theorem runX_ends0 (hold win limit t : Int) (R : List S90) (hR : ∀ y ∈ R, t < y.f0) : ∀ (E : List S90) (s : S90), (∀ y ∈ s :: E, y.f0 = t ∧ y.f1 = false) → ∀ (N : Int) (q : List S98),
    runX hold win limit (N, q) (s :: E ++ R) = runX hold win limit (evictX hold t limit N (q ++ (s :: E).map wQ)) R
  | [], s, hE, N, q => by
    obtain ⟨h1, h2⟩ := hE s (by simp)
    have e : s :: [] ++ R = s :: R := rfl
    rw [e, runX, lastL_new s R (fun y hy => by rw [h1]; exact hR y hy)]
    unfold stepX
    rw [h2, if_neg (by decide), if_pos rfl, h1]
    simp only [List.map_cons, List.map_nil, wQ, h1]
  | s2 :: E, s, hE, N, q => by
    obtain ⟨h1, h2⟩ := hE s (by simp)
    obtain ⟨h3, h4⟩ := hE s2 (by simp)
    have e : s :: s2 :: E ++ R = s :: (s2 :: E ++ R) := rfl
    have e2 : lastL s (s2 :: E ++ R) = false := decide_eq_false (by rw [h1, h3]; omega)
    have e3 : stepX hold win limit false s (N, q) = (N, q ++ [wQ s]) := by
      unfold stepX
      rw [h2, if_neg (by decide), if_neg (by decide)]
      rfl
    rw [e, runX, e2, e3, runX_ends0 hold win limit t R hR E s2 (fun y hy => hE y (List.mem_cons_of_mem _ hy)) N (q ++ [wQ s])]
    simp
theorem runX_ends (hold win limit t : Int) (R : List S90) (hR : ∀ y ∈ R, t < y.f0) (E : List S90) (hE : ∀ y ∈ E, y.f0 = t ∧ y.f1 = false) (N : Int) (q : List S98) (hq : (q.length : Int) ≤ limit) :
    runX hold win limit (N, q) (E ++ R) = runX hold win limit (evictX hold t limit N (q ++ E.map wQ)) R := by
  cases E with
  | nil => rw [List.map_nil, List.append_nil, evictX_stop hold t limit N q hq]; rfl
  | cons s E => exact runX_ends0 hold win limit t R hR E s hE N q

def lexQ (x y : S98) : Prop := x.f0 < y.f0 ∨ (x.f0 = y.f0 ∧ x.f1 < y.f1)
theorem perm_eraseIdx {α : Type} (l : List α) (i : Nat) (h : i < l.length) : l.Perm (l[i] :: l.eraseIdx i) := by
  rw [List.eraseIdx_eq_take_drop_succ]
  have e : l = l.take i ++ l[i] :: l.drop (i + 1) := by
    rw [← List.drop_eq_getElem_cons h, List.take_append_drop]
  conv => lhs; rw [e]
  exact List.perm_middle
theorem nodup_inj {α : Type} {f : α → Int} : ∀ {l : List α}, (l.map f).Nodup → ∀ {x y : α}, x ∈ l → y ∈ l → f x = f y → x = y
  | [], _, _, _, h, _, _ => by cases h
  | a :: l, hn, x, y, hx, hy, he => by
    rw [List.map_cons, List.nodup_cons] at hn
    rcases List.mem_cons.1 hx with rfl | hx2
    · rcases List.mem_cons.1 hy with rfl | hy2
      · rfl
      · exact absurd (he ▸ List.mem_map_of_mem hy2) hn.1
    · rcases List.mem_cons.1 hy with rfl | hy2
      · exact absurd (he ▸ List.mem_map_of_mem hx2) hn.1
      · exact nodup_inj hn.2 hx2 hy2 he
theorem split_sorted {α : Type} {R : α → α → Prop} (p : α → Bool) : ∀ (l : List α), l.Pairwise R → (∀ x ∈ l, ∀ y ∈ l, R x y → p y = true → p x = true) → l = l.filter p ++ l.filter (fun x => !p x)
  | [], _, _ => rfl
  | x :: l, hs, hp => by
    rw [List.pairwise_cons] at hs
    have ih := split_sorted p l hs.2 (fun a ha b hb => hp a (List.mem_cons_of_mem _ ha) b (List.mem_cons_of_mem _ hb))
    cases hx : p x with
    | true =>
      rw [List.filter_cons, if_pos hx, List.filter_cons, if_neg (by simp [hx]), List.cons_append, ← ih]
    | false =>
      have hf : ∀ y ∈ l, p y = false := by
        intro y hy
        cases hy2 : p y with
        | false => rfl
        | true => rw [hp x (by simp) y (List.mem_cons_of_mem _ hy) (hs.1 y hy) hy2] at hx; cases hx
      have e1 : l.filter p = [] := by rw [List.filter_eq_nil_iff]; intro y hy; rw [hf y hy]; decide
      have e2 : l.filter (fun x => !p x) = l := by rw [List.filter_eq_self]; intro y hy; rw [hf y hy]; rfl
      rw [List.filter_cons, if_neg (by rw [hx]; decide), e1, List.filter_cons, if_pos (by simp [hx]), e2, List.nil_append]

/-- What is used of a proper trace. -/
structure LF (l : List S73) : Prop where
  pos : ∀ u ∈ l, 0 ≤ u.f1 ∧ u.f1 < u.f2
  srt : l.Pairwise (fun a b => a.f1 < b.f1 ∨ (a.f1 = b.f1 ∧ a.f0 < b.f0))
  dis : l.Pairwise (fun a b => a.f0 = b.f0 → a.f2 < b.f1)
theorem okTrace_srt (l : List S73) : okTrace l = true → l.Pairwise (fun a b => a.f1 < b.f1 ∨ (a.f1 = b.f1 ∧ a.f0 < b.f0)) := by
  refine snoc_ind (P := fun l => okTrace l = true → l.Pairwise (fun a b => a.f1 < b.f1 ∨ (a.f1 = b.f1 ∧ a.f0 < b.f0))) (fun _ => List.Pairwise.nil) ?_ l
  intro l u ih h
  rw [okTrace_snoc, Bool.and_eq_true] at h
  have hs := ih h.1
  rw [List.pairwise_append]
  refine ⟨hs, by simp, fun a ha b hb => ?_⟩
  simp at hb
  subst hb
  have h2 := h.2
  unfold okAt at h2
  rw [Bool.and_eq_true] at h2
  rcases List.eq_nil_or_concat l with rfl | ⟨l', v, rfl⟩
  · cases ha
  · have h3 := h2.1
    rw [List.concat_eq_append] at h3 ha hs
    rw [List.getLast?_concat] at h3
    have h3 : v.f1 < b.f1 ∨ (v.f1 = b.f1 ∧ v.f0 < b.f0) := by simpa [after] using h3
    rw [List.mem_append] at ha
    rcases ha with ha | ha
    · rw [List.pairwise_append] at hs
      have := hs.2.2 a ha v (by simp)
      omega
    · simp at ha
      subst ha
      exact h3
theorem LF.apart {l : List S73} (h : LF l) {u v : S73} (hu : u ∈ l) (hv : v ∈ l) (hp : u.f0 = v.f0) (hne : u ≠ v) : u.f2 < v.f1 ∨ v.f2 < u.f1 := by
  obtain ⟨i, hi, rfl⟩ := List.getElem_of_mem hu
  obtain ⟨j, hj, rfl⟩ := List.getElem_of_mem hv
  have hd := List.pairwise_iff_getElem.1 h.dis
  rcases Nat.lt_trichotomy i j with h1 | h1 | h1
  · exact .inl (hd i j hi hj h1 hp)
  · subst h1; exact absurd rfl hne
  · exact .inr (hd j i hj hi h1 hp.symm)

theorem steps_begins (t t' : Int) : ∀ l : List S73, (∀ u ∈ l, t < u.f1 → t' ≤ u.f1) → t < t' →
    (stepsOf l).filter (fun s => (decide (t < s.f0) && decide (s.f0 ≤ t')) && s.f1) = (l.filter (fun u => u.f1 == t')).map (fun u => (⟨t', true, u.f0⟩ : S90))
  | [], _, _ => rfl
  | u :: l, h, ht => by
    have ih := steps_begins t t' l (fun v hv => h v (List.mem_cons_of_mem _ hv)) ht
    have e : stepsOf (u :: l) = ⟨u.f1, true, u.f0⟩ :: ⟨u.f2, false, u.f0⟩ :: stepsOf l := rfl
    have hu := h u (by simp)
    rw [e, List.filter_cons, List.filter_cons, ih, List.filter_cons]
    simp only [Bool.and_false, Bool.and_true, if_false, Bool.false_eq_true]
    by_cases h1 : u.f1 = t'
    · subst h1
      rw [if_pos (by simp; omega), if_pos (by simp), List.map_cons]
    · rw [if_neg (by simp; omega), if_neg (by simpa using h1)]
theorem steps_ends (t t' : Int) : ∀ l : List S73, (∀ u ∈ l, t < u.f2 → t' ≤ u.f2) → t < t' →
    (stepsOf l).filter (fun s => (decide (t < s.f0) && decide (s.f0 ≤ t')) && !s.f1) = (l.filter (fun u => u.f2 == t')).map (fun u => (⟨t', false, u.f0⟩ : S90))
  | [], _, _ => rfl
  | u :: l, h, ht => by
    have ih := steps_ends t t' l (fun v hv => h v (List.mem_cons_of_mem _ hv)) ht
    have e : stepsOf (u :: l) = ⟨u.f1, true, u.f0⟩ :: ⟨u.f2, false, u.f0⟩ :: stepsOf l := rfl
    have hu := h u (by simp)
    rw [e, List.filter_cons, List.filter_cons, ih, List.filter_cons]
    simp only [Bool.not_true, Bool.not_false, Bool.and_false, Bool.and_true, if_false, Bool.false_eq_true]
    by_cases h1 : u.f2 = t'
    · subst h1
      rw [if_pos (by simp; omega), if_pos (by simp), List.map_cons]
    · rw [if_neg (by simp; omega), if_neg (by simpa using h1)]

def SortedS (ss : List S90) : Prop := ss.Pairwise (fun x y => ltOf cmpStep y x = false)
theorem tick_split {l : List S73} {ss : List S90} (hl : LF l) (hp : ss.Perm (stepsOf l)) (hs : SortedS ss) (t t' : Int) (ht : t < t') (h1 : ∀ u ∈ l, t < u.f1 → t' ≤ u.f1) (h2 : ∀ u ∈ l, t < u.f2 → t' ≤ u.f2) :
    ∃ E : List S90, ss.filter (fun s => decide (t < s.f0)) = (l.filter (fun u => u.f1 == t')).map (fun u => (⟨t', true, u.f0⟩ : S90)) ++ (E ++ ss.filter (fun s => decide (t' < s.f0))) ∧
      E.Perm ((l.filter (fun u => u.f2 == t')).map (fun u => (⟨t', false, u.f0⟩ : S90))) ∧ SortedS E := by
  have hsub : ∀ p : S90 → Bool, SortedS (ss.filter p) := fun p => List.Pairwise.sublist List.filter_sublist hs
  have d1 := split_sorted (R := fun x y => ltOf cmpStep y x = false) (fun s => decide (s.f0 ≤ t')) (ss.filter (fun s => decide (t < s.f0))) (hsub _) (fun x _ y _ hR hy => by
    rw [lt_cmpStep] at hR
    simp at hR hy ⊢
    omega)
  rw [List.filter_filter, List.filter_filter] at d1
  have e1 : ss.filter (fun a => !decide (a.f0 ≤ t') && decide (t < a.f0)) = ss.filter (fun s => decide (t' < s.f0)) := by
    refine List.filter_congr (fun x _ => ?_)
    rw [Bool.eq_iff_iff]
    simp
    omega
  rw [e1] at d1
  have d2 := split_sorted (R := fun x y => ltOf cmpStep y x = false) (fun s => s.f1) (ss.filter (fun a => decide (a.f0 ≤ t') && decide (t < a.f0))) (hsub _) (fun x hx y hy hR h => by
    have ex : x.f0 = t' := by
      have hxm := List.mem_filter.1 hx
      have hxs := hp.mem_iff.1 hxm.1
      unfold stepsOf at hxs
      rw [List.mem_flatMap] at hxs
      obtain ⟨u, hu, hux⟩ := hxs
      have a1 := h1 u hu
      have a2 := h2 u hu
      have := hxm.2
      simp at this hux
      rcases hux with rfl | rfl <;> simp at this ⊢ <;> omega
    have ey : y.f0 = t' := by
      have hxm := List.mem_filter.1 hy
      have hxs := hp.mem_iff.1 hxm.1
      unfold stepsOf at hxs
      rw [List.mem_flatMap] at hxs
      obtain ⟨u, hu, hux⟩ := hxs
      have a1 := h1 u hu
      have a2 := h2 u hu
      have := hxm.2
      simp at this hux
      rcases hux with rfl | rfl <;> simp at this ⊢ <;> omega
    rw [lt_cmpStep, ex, ey] at hR
    have h : y.f1 = true := h
    show x.f1 = true
    rw [h] at hR
    cases hx1 : x.f1 with
    | true => rfl
    | false => rw [hx1] at hR; simp at hR)
  rw [List.filter_filter, List.filter_filter] at d2
  refine ⟨ss.filter (fun a => !a.f1 && (decide (a.f0 ≤ t') && decide (t < a.f0))), ?_, ?_, hsub _⟩
  · have hB : ss.filter (fun a => a.f1 && (decide (a.f0 ≤ t') && decide (t < a.f0))) = (l.filter (fun u => u.f1 == t')).map (fun u => (⟨t', true, u.f0⟩ : S90)) := by
      have hpB : (ss.filter (fun a => a.f1 && (decide (a.f0 ≤ t') && decide (t < a.f0)))).Perm ((l.filter (fun u => u.f1 == t')).map (fun u => (⟨t', true, u.f0⟩ : S90))) := by
        rw [← steps_begins t t' l h1 ht]
        have e2 : ss.filter (fun a => a.f1 && (decide (a.f0 ≤ t') && decide (t < a.f0))) = ss.filter (fun s => (decide (t < s.f0) && decide (s.f0 ≤ t')) && s.f1) := by
          refine List.filter_congr (fun x _ => ?_)
          cases x.f1 <;> cases decide (t < x.f0) <;> cases decide (x.f0 ≤ t') <;> rfl
        rw [e2]
        exact hp.filter _
      refine steps_unique hpB (hsub _) ?_
      rw [List.pairwise_map]
      refine List.Pairwise.imp_of_mem ?_ (List.Pairwise.sublist List.filter_sublist hl.srt)
      intro a b ha hb hab
      have ha2 := (List.mem_filter.1 ha).2
      have hb2 := (List.mem_filter.1 hb).2
      rw [lt_cmpStep]
      simp at ha2 hb2 ⊢
      omega
    rw [d1, d2, hB, List.append_assoc]
  · rw [← steps_ends t t' l h2 ht]
    have e2 : ss.filter (fun a => !a.f1 && (decide (a.f0 ≤ t') && decide (t < a.f0))) = ss.filter (fun s => (decide (t < s.f0) && decide (s.f0 ≤ t')) && !s.f1) := by
      refine List.filter_congr (fun x _ => ?_)
      cases x.f1 <;> cases decide (t < x.f0) <;> cases decide (x.f0 ≤ t') <;> rfl
    rw [e2]
    exact hp.filter _
theorem end_ge (l : List S73) : ∀ u ∈ l, u.f2 ≤ endOf l := by
  refine snoc_ind (P := fun l => ∀ u ∈ l, u.f2 ≤ endOf l) (fun u hu => (by cases hu)) ?_ l
  intro l v ih u hu
  rw [endOf_snoc]
  have : endOf l ≤ mx (endOf l) v.f2 ∧ v.f2 ≤ mx (endOf l) v.f2 := by unfold mx; split <;> omega
  rw [List.mem_append] at hu
  rcases hu with hu | hu
  · have := ih u hu; omega
  · simp at hu; subst hu; exact this.2

theorem evictX_sub (hold a limit : Int) : ∀ (q : List S98) (N : Int), (evictX hold a limit N q).2.Sublist q
  | [], N => List.Sublist.refl _
  | x :: q, N => by
    rw [evictX]
    split
    · exact (evictX_sub hold a limit q _).trans (List.sublist_cons_self x q)
    · exact List.Sublist.refl _
theorem evictX_len (hold a limit : Int) (h0 : 0 ≤ limit) : ∀ (q : List S98) (N : Int), (((evictX hold a limit N q).2.length : Nat) : Int) ≤ limit
  | [], N => by simp [evictX]; omega
  | x :: q, N => by
    rw [evictX]
    split
    · exact evictX_len hold a limit h0 q _
    · simp only; omega

theorem ends_sorted {l : List S73} (hl : LF l) (t' : Int) (E : List S90) (hE : E.Perm ((l.filter (fun u => u.f2 == t')).map (fun u => (⟨t', false, u.f0⟩ : S90)))) (hs : SortedS E) :
    (E.map wQ).Pairwise lexQ ∧ ((E.map wQ).map (·.f1)).Nodup ∧ ∀ x ∈ E.map wQ, x.f0 = t' ∧ ∃ u ∈ l, u.f2 = t' ∧ u.f0 = x.f1 := by
  have hmem : ∀ s ∈ E, s.f0 = t' ∧ s.f1 = false ∧ ∃ u ∈ l, u.f2 = t' ∧ u.f0 = s.f2 := by
    intro s hsE
    have := hE.mem_iff.1 hsE
    rw [List.mem_map] at this
    obtain ⟨u, hu, rfl⟩ := this
    rw [List.mem_filter] at hu
    exact ⟨rfl, rfl, u, hu.1, by simpa using hu.2, rfl⟩
  have hnd : ((E.map wQ).map (·.f1)).Nodup := by
    have h1 : ((E.map wQ).map (·.f1)) = E.map (·.f2) := by rw [List.map_map]; rfl
    rw [h1]
    have h2 := hE.map (·.f2)
    rw [List.map_map] at h2
    have h3 : (l.filter (fun u => u.f2 == t')).map ((fun s : S90 => s.f2) ∘ fun u => (⟨t', false, u.f0⟩ : S90)) = (l.filter (fun u => u.f2 == t')).map (·.f0) := rfl
    rw [h3] at h2
    rw [h2.nodup_iff]
    unfold List.Nodup
    rw [List.pairwise_map]
    refine List.Pairwise.imp_of_mem ?_ (List.Pairwise.sublist List.filter_sublist hl.dis)
    intro a b ha hb hab he
    have ha2 := (List.mem_filter.1 ha)
    have hb2 := (List.mem_filter.1 hb)
    have a3 : a.f2 = t' := by simpa using ha2.2
    have b3 : b.f2 = t' := by simpa using hb2.2
    have := hab he
    have := hl.pos b hb2.1
    omega
  refine ⟨?_, hnd, ?_⟩
  · rw [List.pairwise_map]
    have h1 : ((E.map wQ).map (·.f1)) = E.map (·.f2) := by rw [List.map_map]; rfl
    rw [h1] at hnd
    unfold List.Nodup at hnd
    rw [List.pairwise_map] at hnd
    refine List.Pairwise.imp_of_mem ?_ (hs.and hnd)
    intro a b ha hb hab
    obtain ⟨hab, hne⟩ := hab
    obtain ⟨a1, a2, _⟩ := hmem a ha
    obtain ⟨b1, b2, _⟩ := hmem b hb
    rw [lt_cmpStep, a1, a2, b1, b2] at hab
    simp at hab
    exact .inr ⟨by simp only [wQ]; omega, by simp only [wQ]; omega⟩
  · intro x hx
    rw [List.mem_map] at hx
    obtain ⟨s, hs1, rfl⟩ := hx
    obtain ⟨h1, h2, h3⟩ := hmem s hs1
    exact ⟨h1, h3⟩

end Go.Proofs.Ytdkfmbammdmohaa.PPolicyCosts

namespace Go.Proofs.Ytdkfmbammdmohaa.PPolicyCosts
open Go.RowKit Go.Proofs.YtdkfmbammdmohaaW.PrintWords Go.Proofs.YtdkfmbammdmohaaW.PrintLast Go.Proofs.YtdkfmbammdmohaaW.PrintMore
open Go.Proofs.YtdkfmbammdmohaaM Go.Proofs.YtdkfmbammdmohaaS
set_option linter.unusedVariables false
set_option linter.unusedSimpArgs false

theorem tailX_cons (e hold : Int) (x : S98) (q : List S98) : tailX e hold (x :: q) = (e - x.f0) * hold + tailX e hold q := by simp [tailX]
theorem tailX_append (e hold : Int) (q r : List S98) : tailX e hold (q ++ r) = tailX e hold q + tailX e hold r := by simp [tailX]
theorem tailX_perm {e hold : Int} {q r : List S98} (h : q.Perm r) : tailX e hold q = tailX e hold r := by
  induction h with
  | nil => rfl
  | cons x _ ih => rw [tailX_cons, tailX_cons, ih]
  | swap x y l => rw [tailX_cons, tailX_cons, tailX_cons, tailX_cons]; omega
  | trans _ _ h1 h2 => rw [h1, h2]
theorem tailX_next (t hold : Int) : ∀ q : List S98, tailX (t + 1) hold q = tailX t hold q + (q.length : Int) * hold
  | [] => by simp [tailX]
  | x :: q => by
    rw [tailX_cons, tailX_cons, tailX_next t hold q, List.length_cons, Int.natCast_add, Int.add_mul]
    have : (t + 1 - x.f0) * hold = (t - x.f0) * hold + hold := by
      have : t + 1 - x.f0 = t - x.f0 + 1 := by omega
      rw [this, Int.add_mul, Int.one_mul]
    omega
theorem tailX_now (t hold : Int) : ∀ q : List S98, (∀ x ∈ q, x.f0 = t) → tailX t hold q = 0
  | [], _ => rfl
  | x :: q, h => by
    rw [tailX_cons, tailX_now t hold q (fun y hy => h y (List.mem_cons_of_mem _ hy)), h x (List.mem_cons_self ..)]
    simp
theorem evictX_sum (hold a limit : Int) : ∀ (q : List S98) (N : Int), (evictX hold a limit N q).1 + tailX a hold (evictX hold a limit N q).2 = N + tailX a hold q
  | [], N => rfl
  | x :: q, N => by
    rw [evictX]
    split
    · rw [evictX_sum hold a limit q, tailX_cons]; omega
    · rfl

/-- the queue beside what live31 knows -/
structure QRel (q : List S98) (s : LvS) : Prop where
  idle : ∀ p : Int, 0 ≤ p → p < 3 → (idleB s p = true ↔ p ∈ q.map (·.f1))
  since : ∀ x ∈ q, s.since x.f1 = x.f0
  rng : ∀ x ∈ q, 0 ≤ x.f1 ∧ x.f1 < 3
  hu : ∀ p, s.used p = true → s.held p = true

theorem fold_begin (l : List S73) (win t : Int) (s : LvS) : ∀ i, i ≤ l.length → beginN l win t s i = ((l.take i).filter (fun u => u.f1 == t)).foldl (fun s u => lvBegin win s u.f0) s
  | 0, _ => rfl
  | i + 1, hi => by
    have ih := fold_begin l win t s i (by omega)
    rw [beginN, take_snoc l i (by omega), List.filter_append, List.foldl_append, ← ih]
    by_cases hf : (rd_T73 l (i : Int)).f1 = t
    · rw [if_pos hf]; simp [hf]
    · rw [if_neg hf]; simp [hf]

theorem begin1_q (hold win t N : Int) (q : List S98) (s : LvS) (p : Int) (p0 : 0 ≤ p) (p3 : p < 3) (h : QRel q s) (hn : (q.map (·.f1)).Nodup) (hc : s.cost = wrap64 (N + tailX t hold q)) (hu : s.used p = false) :
    ∃ N' q', beginX hold win t (N, q) p = (N', q') ∧ QRel q' (lvBegin win s p) ∧ (lvBegin win s p).cost = wrap64 (N' + tailX t hold q') ∧ q'.Sublist q ∧ p ∉ q'.map (·.f1) := by
  have hid : idleB s p = s.held p := by unfold idleB; rw [hu]; simp
  have hidle : ∀ r, idleB (lvBegin win s p) r = if r = p then false else idleB s r := by
    intro r
    unfold idleB lvBegin updF
    by_cases hr : r = p <;> simp [hr]
  have hused : ∀ r, (lvBegin win s p).used r = true → (lvBegin win s p).held r = true := by
    intro r
    unfold lvBegin updF
    by_cases hr : r = p
    · simp [hr]
    · simp only [if_neg hr]; exact h.hu r
  unfold beginX
  simp only
  cases hq : q.findIdx? (fun y => y.f1 == p) with
  | none =>
    rw [List.findIdx?_eq_none_iff] at hq
    have hpn : p ∉ q.map (·.f1) := by
      intro hm
      rw [List.mem_map] at hm
      obtain ⟨y, hy, he⟩ := hm
      have := hq y hy
      simp [he] at this
    have hh : s.held p = false := by
      rw [← hid]
      cases hi : idleB s p with
      | false => rfl
      | true => exact absurd ((h.idle p p0 p3).1 hi) hpn
    refine ⟨_, _, rfl, ⟨fun r r0 r3 => ?_, h.since, h.rng, hused⟩, ?_, List.Sublist.refl _, hpn⟩
    · rw [hidle]
      by_cases hr : r = p
      · subst hr; simp only [if_true]; exact ⟨(fun h => by cases h), fun h => absurd h hpn⟩
      · rw [if_neg hr]; exact h.idle r r0 r3
    · show (if s.held p = true then s.cost else wrap64 (s.cost + win)) = _
      rw [hh, if_neg (by decide), hc, w_add]
      congr 1
      omega
  | some i =>
    rw [List.findIdx?_eq_some_iff_getElem] at hq
    obtain ⟨hi, hpi, _⟩ := hq
    have hpi : q[i].f1 = p := by simpa using hpi
    have hqm : q[i] ∈ q := List.getElem_mem hi
    have pe := perm_eraseIdx q i hi
    have hh : s.held p = true := by
      rw [← hid]
      exact (h.idle p p0 p3).2 (List.mem_map.2 ⟨_, hqm, hpi⟩)
    have hnot : p ∉ (q.eraseIdx i).map (·.f1) := by
      have p2 := pe.map (·.f1)
      rw [p2.nodup_iff, List.map_cons, List.nodup_cons] at hn
      rw [← hpi]
      exact hn.1
    have hsub : (q.eraseIdx i).Sublist q := List.eraseIdx_sublist _ _
    refine ⟨_, _, rfl, ⟨fun r r0 r3 => ?_, fun x hx => h.since x (hsub.subset hx), fun x hx => h.rng x (hsub.subset hx), hused⟩, ?_, hsub, hnot⟩
    · rw [hidle]
      by_cases hr : r = p
      · subst hr; simp only [if_true]; exact ⟨(fun h => by cases h), fun h => absurd h hnot⟩
      · rw [if_neg hr, h.idle r r0 r3]
        have p2 := (pe.map (·.f1)).mem_iff (a := r)
        rw [p2, List.map_cons, List.mem_cons]
        constructor
        · rintro (h1 | h1)
          · exact absurd (h1.trans hpi) hr
          · exact h1
        · exact .inr
    · show (if s.held p = true then s.cost else wrap64 (s.cost + win)) = _
      rw [hh, if_pos rfl, hc, tailX_perm pe, tailX_cons, rd98_is q i hi]
      congr 1
      omega

theorem begin_q (hold win t : Int) : ∀ (B : List S73) (N : Int) (q : List S98) (s : LvS), QRel q s → (q.map (·.f1)).Nodup → s.cost = wrap64 (N + tailX t hold q) →
    (∀ u ∈ B, 0 ≤ u.f0 ∧ u.f0 < 3 ∧ s.used u.f0 = false) → B.Pairwise (fun a b => a.f0 ≠ b.f0) →
    ∃ N' q', B.foldl (fun st u => beginX hold win t st u.f0) (N, q) = (N', q') ∧ QRel q' (B.foldl (fun s u => lvBegin win s u.f0) s) ∧ (B.foldl (fun s u => lvBegin win s u.f0) s).cost = wrap64 (N' + tailX t hold q') ∧
      q'.Sublist q ∧ (∀ u ∈ B, u.f0 ∉ q'.map (·.f1)) ∧ (∀ p, (B.foldl (fun s u => lvBegin win s u.f0) s).used p = true ↔ (s.used p = true ∨ ∃ u ∈ B, u.f0 = p))
  | [], N, q, s, h, hn, hc, _, _ => ⟨N, q, rfl, h, hc, List.Sublist.refl _, (fun u hu => by cases hu), fun p => by simp⟩
  | u :: B, N, q, s, h, hn, hc, hB, hd => by
    obtain ⟨u0, u3, uu⟩ := hB u (List.mem_cons_self ..)
    obtain ⟨N1, q1, e1, h1, c1, s1, m1⟩ := begin1_q hold win t N q s u.f0 u0 u3 h hn hc uu
    have hd' := List.pairwise_cons.1 hd
    have hus : ∀ r, (lvBegin win s u.f0).used r = if r = u.f0 then true else s.used r := fun r => rfl
    obtain ⟨N2, q2, e2, h2, c2, s2, m2, us2⟩ := begin_q hold win t B N1 q1 _ h1 (List.Nodup.sublist (s1.map _) hn) c1 (fun v hv => by
      have hv1 := hB v (List.mem_cons_of_mem _ hv)
      have hne := hd'.1 v hv
      refine ⟨hv1.1, hv1.2.1, ?_⟩
      rw [hus, if_neg (fun h => hne h.symm)]
      exact hv1.2.2) hd'.2
    refine ⟨N2, q2, by rw [List.foldl_cons, e1, e2], h2, c2, s2.trans s1, fun v hv => ?_, fun p => ?_⟩
    · rcases List.mem_cons.1 hv with rfl | hv
      · exact fun h => m1 ((s2.map _).subset h)
      · exact m2 v hv
    · rw [List.foldl_cons, us2, hus]
      by_cases hp : p = u.f0
      · subst hp; simp
      · rw [if_neg hp]
        constructor
        · rintro (h | ⟨v, hv, he⟩)
          · exact .inl h
          · exact .inr ⟨v, List.mem_cons_of_mem _ hv, he⟩
        · rintro (h | ⟨v, hv, he⟩)
          · exact .inl h
          · rcases List.mem_cons.1 hv with rfl | hv
            · exact absurd he.symm hp
            · exact .inr ⟨v, hv, he⟩

theorem idleN_three (s : LvS) : idleN s 3 = (([0, 1, 2] : List Int).filter (fun p => idleB s p)).length := by
  have e0 : ((0 : Nat) : Int) = 0 := rfl
  have e1 : ((1 : Nat) : Int) = 1 := rfl
  have e2 : ((2 : Nat) : Int) = 2 := rfl
  show (if idleB s ((2 : Nat) : Int) = true then (if idleB s ((1 : Nat) : Int) = true then (if idleB s ((0 : Nat) : Int) = true then 0 + 1 else 0) + 1 else (if idleB s ((0 : Nat) : Int) = true then 0 + 1 else 0)) + 1 else (if idleB s ((1 : Nat) : Int) = true then (if idleB s ((0 : Nat) : Int) = true then 0 + 1 else 0) + 1 else (if idleB s ((0 : Nat) : Int) = true then 0 + 1 else 0))) = _
  rw [e0, e1, e2]
  cases h0 : idleB s 0 <;> cases h1 : idleB s 1 <;> cases h2 : idleB s 2 <;> simp [h0, h1, h2]
theorem idleN_q {q : List S98} {s : LvS} (h : QRel q s) (hn : (q.map (·.f1)).Nodup) : idleN s 3 = q.length := by
  rw [idleN_three]
  have hp : (([0, 1, 2] : List Int).filter (fun p => idleB s p)).Perm (q.map (·.f1)) := by
    refine (List.perm_ext_iff_of_nodup (List.Nodup.sublist List.filter_sublist (by decide)) hn).2 (fun p => ?_)
    rw [List.mem_filter]
    constructor
    · rintro ⟨hm, hi⟩
      have hr : 0 ≤ p ∧ p < 3 := by simp at hm; omega
      exact (h.idle p hr.1 hr.2).1 hi
    · intro hm
      have hr : 0 ≤ p ∧ p < 3 := by
        rw [List.mem_map] at hm
        obtain ⟨x, hx, rfl⟩ := hm
        exact h.rng x hx
      exact ⟨by simp; omega, (h.idle p hr.1 hr.2).2 hm⟩
  rw [hp.length_eq, List.length_map]
theorem firstN_min (s : LvS) : ∀ k : Nat, ∀ r : Int, 0 ≤ r → r < k → idleB s r = true → 0 ≤ firstN s k ∧ (s.since (firstN s k) < s.since r ∨ (s.since (firstN s k) = s.since r ∧ firstN s k ≤ r))
  | 0, r, r0, r1, _ => by omega
  | k + 1, r, r0, r1, hi => by
    have ih := firstN_min s k
    have hb := firstN_bd s k
    rw [firstN]
    by_cases hr : r = (k : Int)
    · subst hr
      by_cases hc : firstN s k < 0 ∨ s.since (k : Int) < s.since (firstN s k)
      · rw [if_pos ⟨hi, hc⟩]; exact ⟨r0, .inr ⟨rfl, Int.le_refl _⟩⟩
      · rw [if_neg (fun h => hc h.2)]
        omega
    · have h1 := ih r r0 (by omega) hi
      by_cases hc : idleB s (k : Int) = true ∧ (firstN s k < 0 ∨ s.since (k : Int) < s.since (firstN s k))
      · rw [if_pos hc]
        have := hc.2
        omega
      · rw [if_neg hc]; exact h1
theorem firstN_q {x : S98} {q : List S98} {s : LvS} (h : QRel (x :: q) s) (hs : (x :: q).Pairwise lexQ) : firstN s 3 = x.f1 := by
  have hx := h.rng x (List.mem_cons_self ..)
  have hi : idleB s x.f1 = true := (h.idle _ hx.1 hx.2).2 (by simp)
  obtain ⟨hm0, hm⟩ := firstN_min s 3 x.f1 hx.1 (by omega) hi
  have hb := firstN_bd s 3
  have hif := hb.2.2.2 hm0
  have hmem := (h.idle _ hm0 (by omega)).1 hif
  rw [List.mem_map] at hmem
  obtain ⟨y, hy, he⟩ := hmem
  rcases List.mem_cons.1 hy with rfl | hy2
  · exact he.symm
  · have hlex := (List.pairwise_cons.1 hs).1 y hy2
    have s1 := h.since x (List.mem_cons_self ..)
    have s2 := h.since y hy
    rw [he] at s2
    unfold lexQ at hlex
    omega
theorem evict_q (hold t most : Int) (m0 : 0 ≤ most) : ∀ (f : Nat) (q : List S98) (s : LvS) (N : Int), q.length ≤ f → QRel q s → q.Pairwise lexQ → (q.map (·.f1)).Nodup →
    QRel (evictX hold t most N q).2 (evS 4 most f s) ∧ (evS 4 most f s).cost = s.cost ∧ (evS 4 most f s).used = s.used
  | 0, q, s, N, hl, h, hs, hn => by
    have : q = [] := List.eq_nil_of_length_eq_zero (by omega)
    subst this
    exact ⟨h, rfl, rfl⟩
  | f + 1, q, s, N, hl, h, hs, hn => by
    have hq := idleN_q h hn
    rw [evS, hq]
    by_cases hgt : most < (q.length : Int)
    · rw [if_pos ⟨rfl, hgt⟩]
      cases q with
      | nil => simp at hgt; omega
      | cons x q =>
        rw [evictX, if_pos hgt, firstN_q h hs]
        have hn' := List.nodup_cons.1 (by simpa using hn : (x.f1 :: q.map (·.f1)).Nodup)
        have hq' : QRel q (lvDrop s x.f1) := by
          refine ⟨fun r r0 r3 => ?_, fun y hy => h.since y (List.mem_cons_of_mem _ hy), fun y hy => h.rng y (List.mem_cons_of_mem _ hy), fun r hr => ?_⟩
          · rw [idle_drop]
            by_cases hr : r = x.f1
            · subst hr; simp only [if_true]; exact ⟨(fun h => by cases h), fun h => absurd h hn'.1⟩
            · rw [if_neg hr, h.idle r r0 r3, List.map_cons, List.mem_cons]
              exact ⟨fun h => h.resolve_left hr, .inr⟩
          · have hr1 : s.used r = true := hr
            have hx := h.rng x (List.mem_cons_self ..)
            have hi : idleB s x.f1 = true := (h.idle _ hx.1 hx.2).2 (by simp)
            show updF s.held x.f1 false r = true
            unfold updF
            by_cases hrx : r = x.f1
            · subst hrx
              unfold idleB at hi
              rw [hr1] at hi
              simp at hi
            · rw [if_neg hrx]; exact h.hu r hr1
        exact evict_q hold t most m0 f q _ _ (by simp at hl; omega) hq' (List.pairwise_cons.1 hs).2 hn'.2
    · rw [if_neg (fun h => hgt h.2), evictX_stop hold t most N q (by omega)]
      exact ⟨h, rfl, rfl⟩
end Go.Proofs.Ytdkfmbammdmohaa.PPolicyCosts

namespace Go.Proofs.Ytdkfmbammdmohaa.PPolicyCosts
open Go.RowKit Go.Proofs.YtdkfmbammdmohaaW.PrintWords Go.Proofs.YtdkfmbammdmohaaW.PrintLast Go.Proofs.YtdkfmbammdmohaaW.PrintMore
open Go.Proofs.YtdkfmbammdmohaaM Go.Proofs.YtdkfmbammdmohaaS
set_option linter.unusedVariables false
set_option linter.unusedSimpArgs false

/-- Behind tick t: the code's queue. -/
structure SimC (l : List S73) (ss : List S90) (hold win limit t N : Int) (q : List S98) : Prop where
  run : runX hold win limit (0, []) ss = runX hold win limit (N, q) (ss.filter (fun s => decide (t < s.f0)))
  sort : q.Pairwise lexQ
  old : ∀ x ∈ q, x.f0 ≤ t
  nod : (q.map (·.f1)).Nodup
  len : (q.length : Int) ≤ limit
def UsedR (l : List S73) (t : Int) (s : LvS) : Prop := ∀ p, s.used p = true ↔ ∃ u ∈ l, u.f0 = p ∧ u.f1 ≤ t ∧ t < u.f2

theorem lf_tr3 {l : List S73} (h : LF l) (hr : ∀ u ∈ l, 0 ≤ u.f0 ∧ u.f0 < 3 ∧ u.f2 ≤ 80) : Tr3 l :=
  ⟨h.srt.imp (fun hab => by omega), h.dis, fun u hu => by have := h.pos u hu; have := hr u hu; omega⟩

theorem tick_c {l : List S73} {ss : List S90} {hold win limit age t N : Int} {q : List S98} {s : LvS} (hl : LF l) (hpg : ∀ u ∈ l, 0 ≤ u.f0 ∧ u.f0 < 3) (hp : ss.Perm (stepsOf l)) (hs : SortedS ss) (m0 : 0 ≤ limit)
    (hS : SimC l ss hold win limit t N q) (hQ : QRel q s) (hU : UsedR l t s) (hc : s.cost = wrap64 (N + tailX (t + 1) hold q)) :
    ∃ N' q', SimC l ss hold win limit (t + 1) N' q' ∧ QRel q' (tickS l hold win 4 age limit (t + 1) s) ∧ UsedR l (t + 1) (tickS l hold win 4 age limit (t + 1) s) ∧
      (tickS l hold win 4 age limit (t + 1) s).cost = wrap64 (N' + tailX (t + 1 + 1) hold q') := by
  obtain ⟨E, hF, hE, hEs⟩ := tick_split hl hp hs t (t + 1) (by omega) (fun u _ h => by omega) (fun u _ h => by omega)
  obtain ⟨es, en, em⟩ := ends_sorted hl (t + 1) E hE hEs
  -- the uses that begin
  have hBn : ∀ u ∈ l.filter (fun u => u.f1 == t + 1), 0 ≤ u.f0 ∧ u.f0 < 3 ∧ s.used u.f0 = false := by
    intro u hu
    have hu2 := List.mem_filter.1 hu
    have hf : u.f1 = t + 1 := by simpa using hu2.2
    refine ⟨(hpg u hu2.1).1, (hpg u hu2.1).2, ?_⟩
    cases hb : s.used u.f0 with
    | false => rfl
    | true =>
      obtain ⟨v, hv, v0, v1, v2⟩ := (hU _).1 hb
      have hne : v ≠ u := by rintro rfl; omega
      have hpu := hl.pos u hu2.1
      rcases hl.apart hv hu2.1 v0 hne with h | h <;> omega
  have hBd : (l.filter (fun u => u.f1 == t + 1)).Pairwise (fun a b => a.f0 ≠ b.f0) := by
    refine List.Pairwise.imp_of_mem ?_ (List.Pairwise.sublist List.filter_sublist hl.dis)
    intro a b ha hb hab he
    have ha2 := List.mem_filter.1 ha
    have hb2 := List.mem_filter.1 hb
    have a1 : a.f1 = t + 1 := by simpa using ha2.2
    have b1 : b.f1 = t + 1 := by simpa using hb2.2
    have := hab he
    have := hl.pos a ha2.1
    omega
  obtain ⟨N1, q1, e1, Q1, c1, s1, m1, us1⟩ := begin_q hold win (t + 1) (l.filter (fun u => u.f1 == t + 1)) N q s hQ hS.nod hc hBn hBd
  have hfb := fold_begin l win (t + 1) s l.length (Nat.le_refl _)
  rw [List.take_length] at hfb
  rw [← hfb] at Q1 c1 us1
  clear hfb
  generalize hsb : beginN l win (t + 1) s l.length = sb at *
  have hub : ∀ p, sb.used p = true ↔ ∃ u ∈ l, u.f0 = p ∧ u.f1 ≤ t + 1 ∧ t + 1 ≤ u.f2 := by
    intro p
    rw [us1, hU]
    constructor
    · rintro (⟨u, hu, h0, h1, h2⟩ | ⟨u, hu, h0⟩)
      · exact ⟨u, hu, h0, by omega, by omega⟩
      · have hu2 := List.mem_filter.1 hu
        have hf : u.f1 = t + 1 := by simpa using hu2.2
        have := hl.pos u hu2.1
        exact ⟨u, hu2.1, h0, by omega, by omega⟩
    · rintro ⟨u, hu, h0, h1, h2⟩
      by_cases hf : u.f1 = t + 1
      · exact .inr ⟨u, List.mem_filter.2 ⟨hu, by simpa using hf⟩, h0⟩
      · exact .inl ⟨u, hu, h0, by omega, by omega⟩
  -- the uses that end
  obtain ⟨ne1, ne2, ne3, ne4⟩ := endN_is l (t + 1) sb l.length (Nat.le_refl _)
  rw [List.take_length] at ne1 ne2
  have hends : endsS l win (t + 1) s = endN l (t + 1) sb l.length := by unfold endsS; rw [hsb]
  generalize hse : endN l (t + 1) sb l.length = se at *
  have hEp : ∀ p, endsAt l (t + 1) p = true ↔ p ∈ (E.map wQ).map (·.f1) := by
    intro p
    unfold endsAt
    rw [List.any_eq_true]
    constructor
    · rintro ⟨u, hu, hb⟩
      have hb2 : u.f0 = p ∧ u.f2 = t + 1 := by simpa using hb
      rw [List.map_map, List.mem_map]
      refine ⟨⟨t + 1, false, u.f0⟩, ?_, hb2.1⟩
      rw [hE.mem_iff, List.mem_map]
      exact ⟨u, List.mem_filter.2 ⟨hu, by simpa using hb2.2⟩, rfl⟩
    · intro h
      rw [List.mem_map] at h
      obtain ⟨x, hx, rfl⟩ := h
      obtain ⟨_, u, hu, h2, h0⟩ := em x hx
      exact ⟨u, hu, by simp [h2, h0]⟩
  have hEu : ∀ p, endsAt l (t + 1) p = true → sb.used p = true := by
    intro p h
    unfold endsAt at h
    rw [List.any_eq_true] at h
    obtain ⟨u, hu, hb⟩ := h
    have hb2 : u.f0 = p ∧ u.f2 = t + 1 := by simpa using hb
    have := hl.pos u hu
    exact (hub p).2 ⟨u, hu, hb2.1, by omega, by omega⟩
  have hq1u : ∀ x ∈ q1, sb.used x.f1 = false ∧ endsAt l (t + 1) x.f1 = false := by
    intro x hx
    have hr := Q1.rng x hx
    have hi := (Q1.idle _ hr.1 hr.2).2 (List.mem_map.2 ⟨x, hx, rfl⟩)
    have hun : sb.used x.f1 = false := by
      unfold idleB at hi
      cases hh : sb.used x.f1 with
      | false => rfl
      | true => rw [hh] at hi; simp at hi
    refine ⟨hun, ?_⟩
    cases he : endsAt l (t + 1) x.f1 with
    | false => rfl
    | true => rw [hEu _ he] at hun; cases hun
  have Q2 : QRel (q1 ++ E.map wQ) se := by
    refine ⟨fun p p0 p3 => ?_, fun x hx => ?_, fun x hx => ?_, fun p h => ?_⟩
    · rw [List.map_append, List.mem_append, ← hEp p, ← Q1.idle p p0 p3]
      unfold idleB
      rw [ne1 p, ne3]
      cases he : endsAt l (t + 1) p with
      | false => simp
      | true =>
        have hus := hEu p he
        have hh := Q1.hu p hus
        simp [hh]
    · rcases List.mem_append.1 hx with hx | hx
      · rw [ne2, (hq1u x hx).2, if_neg (by decide)]
        exact Q1.since x hx
      · have he := (hEp x.f1).2 (List.mem_map.2 ⟨x, hx, rfl⟩)
        rw [ne2, he, if_pos rfl]
        exact (em x hx).1.symm
    · rcases List.mem_append.1 hx with hx | hx
      · exact Q1.rng x hx
      · obtain ⟨_, u, hu, _, h0⟩ := em x hx
        rw [← h0]
        exact hpg u hu
    · rw [ne1] at h
      rw [ne3]
      split at h
      · cases h
      · exact Q1.hu p h
  have hnod : ((q1 ++ E.map wQ).map (·.f1)).Nodup := by
    rw [List.map_append, List.nodup_append]
    refine ⟨List.Nodup.sublist (s1.map _) hS.nod, en, fun a ha b hb hab => ?_⟩
    rw [List.mem_map] at ha
    obtain ⟨x, hx, rfl⟩ := ha
    have h1 := (hEp b).2 hb
    rw [← hab, (hq1u x hx).2] at h1
    cases h1
  have hsort : (q1 ++ E.map wQ).Pairwise lexQ := by
    rw [List.pairwise_append]
    refine ⟨List.Pairwise.sublist s1 hS.sort, es, fun a ha b hb => ?_⟩
    have := hS.old a (s1.subset ha)
    have := (em b hb).1
    exact .inl (by omega)
  have hql : (q1.length : Int) ≤ limit := by have := s1.length_le; have := hS.len; omega
  have hlen3 : (q1 ++ E.map wQ).length ≤ 3 := by
    rw [← idleN_q Q2 hnod]
    exact idleN_le se 3
  have hcse : se.cost = wrap64 (N1 + tailX (t + 1) hold (q1 ++ E.map wQ)) := by
    rw [ne4, c1, tailX_append, tailX_now (t + 1) hold (E.map wQ) (fun x hx => (em x hx).1)]
    congr 1
    omega
  -- what is given back
  obtain ⟨Q3, c3, u3⟩ := evict_q hold (t + 1) limit m0 3 (q1 ++ E.map wQ) se N1 hlen3 Q2 hsort hnod
  have hsum := evictX_sum hold (t + 1) limit (q1 ++ E.map wQ) N1
  have hsub := evictX_sub hold (t + 1) limit (q1 ++ E.map wQ) N1
  have hel := evictX_len hold (t + 1) limit m0 (q1 ++ E.map wQ) N1
  have hrun : runX hold win limit (0, []) ss = runX hold win limit (evictX hold (t + 1) limit N1 (q1 ++ E.map wQ)) (ss.filter (fun s => decide (t + 1 < s.f0))) := by
    rw [hS.run, hF, runX_begins, e1]
    refine runX_ends hold win limit (t + 1) _ ?_ E ?_ N1 q1 hql
    · intro y hy
      have := (List.mem_filter.1 hy).2
      simpa using this
    · intro y hy
      have := hE.mem_iff.1 hy
      rw [List.mem_map] at this
      obtain ⟨u, hu, rfl⟩ := this
      exact ⟨rfl, rfl⟩
  generalize hev : evictX hold (t + 1) limit N1 (q1 ++ E.map wQ) = ev at *
  obtain ⟨N2, q2⟩ := ev
  simp only at Q3 hsum hsub hel
  have hks : keptS l win 4 age limit (t + 1) s = evS 4 limit 3 se := by
    unfold keptS
    rw [hends, drop_four]
  have hn2 : (q2.map (·.f1)).Nodup := List.Nodup.sublist (hsub.map _) hnod
  have hid : idleN (keptS l win 4 age limit (t + 1) s) 3 = q2.length := by rw [hks]; exact idleN_q Q3 hn2
  have hpay := pay_is hold (N2 + tailX (t + 1) hold q2) (keptS l win 4 age limit (t + 1) s) (by rw [hks, c3, hcse, hsum]) 3
  refine ⟨N2, q2, ⟨hrun, List.Pairwise.sublist hsub hsort, fun x hx => ?_, hn2, hel⟩, ?_, ?_, ?_⟩
  · have hx := hsub.subset hx
    rcases List.mem_append.1 hx with h | h
    · have := hS.old x (s1.subset h); omega
    · have := (em x h).1; omega
  · have hQt : ∀ c, QRel q2 ⟨(evS 4 limit 3 se).used, (evS 4 limit 3 se).held, (evS 4 limit 3 se).since, c⟩ := fun c => ⟨Q3.idle, Q3.since, Q3.rng, Q3.hu⟩
    unfold tickS
    rw [hks]
    exact hQt _
  · intro p
    have hut : (tickS l hold win 4 age limit (t + 1) s).used p = se.used p := by
      show (keptS l win 4 age limit (t + 1) s).used p = _
      rw [hks, u3]
    rw [hut, ne1]
    cases he : endsAt l (t + 1) p with
    | true =>
      simp only [if_true]
      refine ⟨(fun h => by cases h), fun ⟨u, hu, h0, h1, h2⟩ => ?_⟩
      exfalso
      unfold endsAt at he
      rw [List.any_eq_true] at he
      obtain ⟨v, hv, hb⟩ := he
      have hb2 : v.f0 = p ∧ v.f2 = t + 1 := by simpa using hb
      have hne : u ≠ v := by rintro rfl; omega
      have := hl.pos v hv
      rcases hl.apart hu hv (by omega) hne with h | h <;> omega
    | false =>
      rw [if_neg (by decide), hub]
      constructor
      · rintro ⟨u, hu, h0, h1, h2⟩
        refine ⟨u, hu, h0, h1, ?_⟩
        by_cases h3 : u.f2 = t + 1
        · exfalso
          have : endsAt l (t + 1) p = true := by
            unfold endsAt
            rw [List.any_eq_true]
            exact ⟨u, hu, by simp [h0, h3]⟩
          rw [this] at he
          cases he
        · omega
      · rintro ⟨u, hu, h0, h1, h2⟩
        exact ⟨u, hu, h0, h1, by omega⟩
  · show payN hold (keptS l win 4 age limit (t + 1) s) 3 = _
    rw [hpay, hid, tailX_next (t + 1) hold q2]
    congr 1
    omega

theorem live_c {l : List S73} {ss : List S90} {hold win limit age : Int} (hl : LF l) (hpg : ∀ u ∈ l, 0 ≤ u.f0 ∧ u.f0 < 3) (hp : ss.Perm (stepsOf l)) (hs : SortedS ss) (m0 : 0 ≤ limit) :
    ∀ n : Nat, ∃ N q, SimC l ss hold win limit ((n : Int) - 1) N q ∧ QRel q (liveR l hold win 4 age limit n) ∧ UsedR l ((n : Int) - 1) (liveR l hold win 4 age limit n) ∧
      (liveR l hold win 4 age limit n).cost = wrap64 (N + tailX (n : Int) hold q)
  | 0 => by
    have e0 : (((0 : Nat) : Int) - 1) = -1 := rfl
    have hall : ss.filter (fun s => decide ((-1 : Int) < s.f0)) = ss := by
      rw [List.filter_eq_self]
      intro s hsm
      have := hp.mem_iff.1 hsm
      unfold stepsOf at this
      rw [List.mem_flatMap] at this
      obtain ⟨u, hu, hus⟩ := this
      have h2 := hl.pos u hu
      simp at hus
      rcases hus with rfl | rfl <;> simp <;> omega
    refine ⟨0, [], ⟨by rw [e0, hall], List.Pairwise.nil, fun x hx => (by cases hx), List.nodup_nil, by simpa using m0⟩, ⟨fun p _ _ => ?_, fun x hx => (by cases hx), fun x hx => (by cases hx), fun p h => ?_⟩, fun p => ?_, ?_⟩
    · simp [liveR, idleB]
    · simp [liveR] at h
    · rw [e0]
      constructor
      · intro h; simp [liveR] at h
      · rintro ⟨u, hu, h0, h1, h2⟩
        have := hl.pos u hu
        omega
    · show (0 : Int) = wrap64 (0 + tailX _ hold [])
      simp [tailX, wrap64]
  | n + 1 => by
    obtain ⟨N, q, hS, hQ, hU, hc⟩ := live_c (hold := hold) (win := win) (age := age) hl hpg hp hs m0 n
    have e1 : ((n : Int) - 1) + 1 = (n : Int) := by omega
    have ht := tick_c (age := age) hl hpg hp hs m0 hS hQ hU (by rw [e1]; exact hc)
    rw [e1] at ht
    obtain ⟨N', q', h1, h2, h3, h4⟩ := ht
    have e2 : ((n + 1 : Nat) : Int) - 1 = (n : Int) := by omega
    have e3 : ((n + 1 : Nat) : Int) = (n : Int) + 1 := by omega
    refine ⟨N', q', by rw [e2]; exact h1, h2, by rw [e2]; exact h3, by rw [e3]; exact h4⟩
/-- Under a number of waiting pages live31 costs what the package reckons. -/
theorem live_most {l : List S73} {ss : List S90} {hold win limit age : Int} (hl : LF l) (hpg : ∀ u ∈ l, 0 ≤ u.f0 ∧ u.f0 < 3) (hp : ss.Perm (stepsOf l)) (hs : SortedS ss) (m0 : 0 ≤ limit) :
    (liveR l hold win 4 age limit (endOf l).toNat).cost = mostQ hold win limit (endOf l) ss := by
  obtain ⟨N, q, hS, hQ, hU, hc⟩ := live_c (hold := hold) (win := win) (age := age) hl hpg hp hs m0 (endOf l).toNat
  have he0 := (endOf_max l).2.1
  have hce : (((endOf l).toNat : Nat) : Int) = endOf l := Int.toNat_of_nonneg he0
  rw [hce] at hS hU hc
  obtain ⟨E, hF, hE, hEs⟩ := tick_split hl hp hs (endOf l - 1) (endOf l) (by omega) (fun u _ h => by omega) (fun u _ h => by omega)
  obtain ⟨es, en, em⟩ := ends_sorted hl (endOf l) E hE hEs
  have hnb : l.filter (fun u => u.f1 == endOf l) = [] := by
    rw [List.filter_eq_nil_iff]
    intro u hu
    have h1 := end_ge l u hu
    have h2 := hl.pos u hu
    simp
    omega
  have hnil : ss.filter (fun s => decide (endOf l < s.f0)) = [] := by
    rw [List.filter_eq_nil_iff]
    intro s hsm
    have := hp.mem_iff.1 hsm
    unfold stepsOf at this
    rw [List.mem_flatMap] at this
    obtain ⟨u, hu, hus⟩ := this
    have h1 := end_ge l u hu
    have h2 := hl.pos u hu
    simp at hus
    rcases hus with rfl | rfl <;> simp <;> omega
  rw [hnb, hnil, List.map_nil, List.nil_append] at hF
  have hr := runX_ends hold win limit (endOf l) [] (fun y hy => (by cases hy)) E (fun y hy => by
    have := hE.mem_iff.1 hy
    rw [List.mem_map] at this
    obtain ⟨u, hu, rfl⟩ := this
    exact ⟨rfl, rfl⟩) N q hS.len
  have hsum := evictX_sum hold (endOf l) limit (q ++ E.map wQ) N
  rw [mostQ_is, hS.run, hF, hr, runX, hsum, hc, tailX_append, tailX_now (endOf l) hold (E.map wQ) (fun x hx => (em x hx).1)]
  congr 1
  omega
end Go.Proofs.Ytdkfmbammdmohaa.PPolicyCosts

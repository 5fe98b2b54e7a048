/- What package policy keeps of a trace, in plain words: the last tick of each page, the gaps, the end, what is wrong. -/
import Derived.Test.YtdkfmbammdmohaaZ1
import Derived.Test.YtdkfmbammdmohaaZ2
import Derived.IntWalk
import Derived.Deep.DeepMust
namespace Go.Proofs.Ytdkfmbammdmohaa.PPolicyCosts
open Go.RowKit Go.Proofs.YtdkfmbammdmohaaW.PrintWords Go.Proofs.YtdkfmbammdmohaaW.PrintLast Go.Proofs.YtdkfmbammdmohaaW.PrintMore
open Go.Proofs.YtdkfmbammdmohaaM
set_option linter.unusedVariables false

/-- the To of the last use of a page -/
def lastOf (l : List S73) (p : Int) : Option Int := l.foldl (fun a u => if u.f0 = p then some u.f2 else a) none
theorem lastOf_nil (p : Int) : lastOf [] p = none := rfl
theorem lastOf_snoc (l : List S73) (u : S73) (p : Int) : lastOf (l ++ [u]) p = if u.f0 = p then some u.f2 else lastOf l p := by
  simp [lastOf, List.foldl_append]
/-- the gap that a use ends -/
def gapOf (l : List S73) (u : S73) : List S52 := match lastOf l u.f0 with | some t => [⟨u.f0, t, u.f1⟩] | none => []
def gapsU : List S73 → List S73 → List S52
  | _, [] => []
  | pre, u :: r => gapOf pre u ++ gapsU (pre ++ [u]) r
theorem gapsU_snoc (r : List S73) : ∀ (pre : List S73) (u : S73), gapsU pre (r ++ [u]) = gapsU pre r ++ gapOf (pre ++ r) u := by
  induction r with
  | nil => intro pre u; simp [gapsU]
  | cons x r ih => intro pre u; simp [gapsU, ih]
/-- the gaps of a trace, in the order of their ends -/
def gapsOf (l : List S73) : List S52 := gapsU [] l
theorem gapsOf_snoc (l : List S73) (u : S73) : gapsOf (l ++ [u]) = gapsOf l ++ gapOf l u := by
  unfold gapsOf; rw [gapsU_snoc]; simp
theorem gapOf_len (l : List S73) (u : S73) : (gapOf l u).length ≤ 1 := by unfold gapOf; split <;> simp
theorem gapsU_len (r : List S73) : ∀ pre : List S73, (gapsU pre r).length ≤ r.length := by
  induction r with
  | nil => intro pre; simp [gapsU]
  | cons x r ih => intro pre; have := ih (pre ++ [x]); have := gapOf_len pre x; simp [gapsU]; omega
theorem gapsOf_len (l : List S73) : (gapsOf l).length ≤ l.length := gapsU_len l []
/-- the end of a trace -/
def endOf (l : List S73) : Int := l.foldl (fun a u => mx a u.f2) 0
theorem endOf_snoc (l : List S73) (u : S73) : endOf (l ++ [u]) = mx (endOf l) u.f2 := by simp [endOf, List.foldl_append]
/-- how many pages -/
def pagesOf : List S73 → List S73 → Nat
  | _, [] => 0
  | pre, u :: r => (if (lastOf pre u.f0).isSome then 0 else 1) + pagesOf (pre ++ [u]) r
theorem pagesOf_snoc (r : List S73) : ∀ (pre : List S73) (u : S73), pagesOf pre (r ++ [u]) = pagesOf pre r + (if (lastOf (pre ++ r) u.f0).isSome then 0 else 1) := by
  induction r with
  | nil => intro pre u; simp [pagesOf]
  | cons x r ih => intro pre u; simp [pagesOf, ih]; omega
def cntOf (l : List S73) : Nat := pagesOf [] l
theorem cntOf_snoc (l : List S73) (u : S73) : cntOf (l ++ [u]) = cntOf l + (if (lastOf l u.f0).isSome then 0 else 1) := by
  unfold cntOf; rw [pagesOf_snoc]; simp

/-- may a use stand behind another one? -/
def after (a u : S73) : Bool := decide (a.f1 < u.f1) || (decide (a.f1 = u.f1) && decide (a.f0 < u.f0))
/-- may a use stand behind a list? -/
def okAt (l : List S73) (u : S73) : Bool := (match l.getLast? with | some a => after a u | none => true) && (match lastOf l u.f0 with | some t => decide (t < u.f1) | none => true)
def okU : List S73 → List S73 → Bool
  | _, [] => true
  | pre, u :: r => okAt pre u && okU (pre ++ [u]) r
theorem okU_snoc (r : List S73) : ∀ (pre : List S73) (u : S73), okU pre (r ++ [u]) = (okU pre r && okAt (pre ++ r) u) := by
  induction r with
  | nil => intro pre u; simp [okU]
  | cons x r ih => intro pre u; simp [okU, ih, Bool.and_assoc]
theorem okU_append (r : List S73) : ∀ (pre s : List S73), okU pre (r ++ s) = (okU pre r && okU (pre ++ r) s) := by
  induction r with
  | nil => intro pre s; simp [okU]
  | cons x r ih => intro pre s; simp [okU, ih, Bool.and_assoc]
def okTrace (l : List S73) : Bool := okU [] l
theorem okTrace_snoc (l : List S73) (u : S73) : okTrace (l ++ [u]) = (okTrace l && okAt l u) := by
  unfold okTrace; rw [okU_snoc]; simp
theorem okTrace_append (l r : List S73) : okTrace (l ++ r) = (okTrace l && okU l r) := by
  unfold okTrace; rw [okU_append]; simp

/-- the error of a trace -/
def chk (l : List S73) : Int := if l.length > 200 then 3 else if l.any wrongU = true then 7 else if okTrace l = true then 0 else 6

theorem take_snoc' {α : Type} (l : List α) (k : Nat) (h : k < l.length) : l.take (k + 1) = l.take k ++ [l[k]] := by
  rw [List.take_succ_eq_append_getElem h]

/-- the order of a use and the next one, as the code asks it -/
theorem after_or (a u : S73) : decide (0 ≤ orI (cmpI a.f1 u.f1) (cmpI a.f0 u.f0)) = !after a u := by
  unfold after orI cmpI
  by_cases h1 : a.f1 < u.f1
  · simp [h1]
  · by_cases h2 : u.f1 < a.f1
    · have : ¬ a.f1 = u.f1 := by omega
      simp [h1, h2, this]
    · have h3 : a.f1 = u.f1 := by omega
      by_cases h4 : a.f0 < u.f0
      · simp [h3, h4]
      · by_cases h5 : u.f0 < a.f0
        · simp [h3, h4, h5]
        · simp [h3, h4, h5]

/-- A trace as it lies in memory: the uses, the gaps, the last tick of each page, the end. -/
def TraceAt (w : World) (base T : Nat) (lv : Value) (gs : List S52) (f : Int → Option Int) (cnt : Nat) (e : Int) : Prop :=
  ∃ gv M, base ≤ T ∧ w.heap[T]? = some (.cells #[lv, gv, .map (some M), .int .i64 e] 71 (0, 0)) ∧ w.ownsRow base 52 3 gv gs.length (gs.flatMap e52) ∧ base ≤ M ∧ IM Try.prog 3 elInt w M f cnt 1000

theorem TraceAt.below {w w' : World} {base T : Nat} {lv : Value} {gs : List S52} {f : Int → Option Int} {cnt : Nat} {e : Int} (h : TraceAt w base T lv gs f cnt e) (hb : Below w.heap.size w w') : TraceAt w' base T lv gs f cnt e := by
  obtain ⟨gv, M, h1, h2, h3, h4, h5⟩ := h
  exact ⟨gv, M, h1, blk_below h2 hb, pw_own_below h3 hb, h4, h5.block (hb.block M h5.lt)⟩

def lex52 (x y : S52) : Prop := x.f1 < y.f1 ∨ (x.f1 = y.f1 ∧ x.f0 < y.f0)

/-- What open comes to. -/
def OpenPost (lv : Value) (l : List S73) (w : World) (e : Ending) (w' : World) : Prop :=
  Below w.heap.size w w' ∧ ((chk l ≠ 0 ∧ e = .returned (.tuple #[.pointer none, .int .i64 (chk l)])) ∨
    (chk l = 0 ∧ ∃ T gs, e = .returned (.tuple #[.pointer (some ⟨T, 0, none⟩), .int .i64 0]) ∧ gs.Perm (gapsOf l) ∧ gs.Pairwise (fun x y => decide (cmpGap y x < 0) = false) ∧ TraceAt w' w.heap.size T lv gs (lastOf l) (cntOf l) (endOf l)))
end Go.Proofs.Ytdkfmbammdmohaa.PPolicyCosts

namespace Go.Proofs.Ytdkfmbammdmohaa.PPolicyCosts
open Go.RowKit Go.Proofs.YtdkfmbammdmohaaW.PrintWords Go.Proofs.YtdkfmbammdmohaaW.PrintLast Go.Proofs.YtdkfmbammdmohaaW.PrintMore
open Go.Proofs.YtdkfmbammdmohaaM Go.Proofs.YtdkfmbammdmohaaS
attribute [local go_sem] max2_int min2_int max_two min_two max_three min_three max_four min_four
set_option linter.unusedVariables false
set_option linter.unusedSimpArgs false

/-- A slice that is read: its address has no spot, its cells lie in a row. -/
theorem C73_row {w : World} {A : Option Addr} {l : List S73} (h : Kd.C k73 w A l.length l) (hn : 0 < l.length) :
    ∃ b off, A = some ⟨b, off, none⟩ ∧ b < w.heap.size ∧ ∀ j, j < l.length → ∀ i v, (e73 l[j]!)[i]? = some v → w.cell? ⟨b, off + j * 3 + i, none⟩ = some v := by
  obtain ⟨ad, rfl, c0, _, _⟩ := at_T73 h 0 (by omega) (by omega)
  obtain ⟨b, off, sp⟩ := ad
  have hsp : sp = none := by
    have h0 : w.cell? ⟨b, off, sp⟩ ≠ none := by
      have : w.cell? ⟨b, off, sp⟩ = some _ := c0
      rw [this]; simp
    unfold World.cell? at h0
    cases sp with
    | none => rfl
    | some s => exfalso; apply h0; split <;> simp
  subst hsp
  refine ⟨b, off, rfl, World.block_lt_of_cell? w ⟨b, off, none⟩ c0, fun j hj i v hv => ?_⟩
  obtain ⟨ad, e, d0, d1, d2⟩ := at_T73 h (j : Int) (by omega) (by omega)
  injection e with e
  subst e
  have hr : rd_T73 l (j : Int) = l[j]! := by
    unfold rd_T73
    rw [Int.toNat_natCast, List.getD_eq_getElem?_getD, List.getElem?_eq_getElem hj, getElem!_pos l j hj]
    rfl
  rw [hr, Int.toNat_natCast] at d0 d1 d2
  have ea : (⟨b, off, none⟩ : Addr).add (j * 3) = ⟨b, off + j * 3, none⟩ := by unfold Addr.add; split <;> simp_all
  rw [ea] at d0 d1 d2
  generalize l[j]! = x at *
  match i, hv with
  | 0, hv => simp only [e73, List.getElem?_cons_zero, List.getElem?_cons_succ, Option.some.injEq] at hv; subst hv; exact d0
  | 1, hv => simp only [e73, List.getElem?_cons_zero, List.getElem?_cons_succ, Option.some.injEq] at hv; subst hv; exact d1
  | 2, hv => simp only [e73, List.getElem?_cons_zero, List.getElem?_cons_succ, Option.some.injEq] at hv; subst hv; exact d2
  | i + 3, hv => simp [e73] at hv

theorem predWrong (w : World) : PredBelow Try.prog 61 #[] (fun x : S73 => .agg (e73 x).toArray) wrongU w := fun W x hb =>
  (wrong_any x W).mono fun e w' ⟨he, hb'⟩ => ⟨he, below_step hb hb'⟩

theorem idx_empty (A : Option Addr) (c : Nat) (fv : Value) (w : World) : Calls Try.prog 80 #[.slice A 0 c, fv] w fun e w' => e = .returned (.int .i64 (-1)) ∧ w' = w := by
  go_enter Try.func80, Try.ntmps80
  go_wp2
  refine wp_loop_rounds 1 ?_; rw [rounds_succ]
  go_wp2
  go_ret
  exact ⟨rfl, rfl⟩

theorem has_wrong (A : Option Addr) (c : Nat) (l : List S73) (w : World) (h : Kd.C k73 w A l.length l) :
    Calls Try.prog 62 #[.slice A l.length c, .func (.func 61) #[] #[]] w fun e w' => e = .returned (.bool (l.any wrongU)) ∧ Below w.heap.size w w' := by
  rcases Nat.eq_zero_or_pos l.length with h0 | h0
  · obtain rfl : l = [] := List.eq_nil_of_length_eq_zero h0
    go_enter Try.func62, Try.ntmps62
    go_wp2_with (go_at_call 80; refine (idx_empty _ _ _ _).mono ?_; rintro e w' ⟨rfl, rfl⟩)
    go_ret
    exact ⟨rfl, Below.refl _ _⟩
  · obtain ⟨b, off, rfl, hb, hc⟩ := C73_row h h0
    have hbig : l.length ≤ 9223372036854775807 := h.2.1
    have eg : ∀ args w, (callFunc 61 args).run Try.prog w = .ok (.enter 61 args) w := enters_of Try.func61 (by kernel_rfl) rfl
    have := AnyQ.slices_ContainsFunc Try.hasUse 3 Try.isAgg73 Try.sizeOf73 e73 (fun _ => rfl) wrongU 61 #[] eg b off l.length c l w (predWrong w) (Nat.le_refl _) hbig hb hc
    rw [List.take_length] at this
    exact this

theorem lt_cmpGap (x y : S52) : ltOf cmpGap x y = (decide (x.f1 < y.f1) || (decide (x.f1 = y.f1) && decide (x.f0 < y.f0))) := by
  unfold ltOf cmpGap orI cmpI
  by_cases h1 : x.f1 < y.f1
  · simp [h1]
  · by_cases h2 : y.f1 < x.f1
    · have : ¬ x.f1 = y.f1 := by omega
      simp [h1, h2, this]
    · have h3 : x.f1 = y.f1 := by omega
      by_cases h4 : x.f0 < y.f0
      · simp [h3, h4]
      · by_cases h5 : y.f0 < x.f0
        · simp [h3, h4, h5]
        · simp [h3, h4, h5]

theorem swoGap : Sort.SWO (ltOf cmpGap) where
  irrefl x := by rw [lt_cmpGap]; simp
  trans x y z h1 h2 := by rw [lt_cmpGap] at *; simp at *; omega
  ntrans x y z h1 h2 := by rw [lt_cmpGap] at *; simp at *; omega

theorem sortGap_own (base : Nat) (v : Value) (d : List S52) (w : World) (ho : w.ownsRow base 52 3 v d.length (d.flatMap e52)) (hsz : d.length < 4611686018427387904) :
    Calls Try.prog 64 #[v, .func (.func 65) #[] #[]] w fun en w' => en = .returned (.tuple #[]) ∧ ∃ d' : List S52, d'.Perm d ∧ d'.Pairwise (fun x y => decide (cmpGap y x < 0) = false) ∧ w'.ownsRow base 52 3 v d'.length (d'.flatMap e52) ∧ w.grownBy w' v.ownBlock := by
  have eg : ∀ args w, (callFunc 65 args).run Try.prog w = .ok (.enter 65 args) w := enters_of Try.func65 (by kernel_rfl) rfl
  exact sortFunc_own Try.sortGap 3 52 Try.isAgg52 Try.sizeOf52 e52 (fun _ => rfl) (fun x v hv => by simp [e52] at hv; rcases hv with rfl | rfl | rfl <;> rfl) cmpGap swoGap 65 eg (fun x y W => cmpGap_any x y W) base v d w ho hsz
end Go.Proofs.Ytdkfmbammdmohaa.PPolicyCosts

namespace Go.Proofs.Ytdkfmbammdmohaa.PPolicyCosts
open Go.RowKit Go.Proofs.YtdkfmbammdmohaaW.PrintWords Go.Proofs.YtdkfmbammdmohaaW.PrintLast Go.Proofs.YtdkfmbammdmohaaW.PrintMore
open Go.Proofs.YtdkfmbammdmohaaM Go.Proofs.YtdkfmbammdmohaaS
attribute [local go_sem] max2_int min2_int max_two min_two max_three min_three max_four min_four
set_option linter.unusedVariables false
set_option linter.unusedSimpArgs false

theorem zero2 (W : World) : (zeroValue 2).run Try.prog W = .ok (elInt.enc 0) W := by kernel_rfl
theorem info52' : (Try.prog.info? 52).map (fun i => (i.zero, i.size, i.bytes)) = some (some (.agg #[(.int .i64 0), (.int .i64 0), (.int .i64 0)]), 3, 24) := by kernel_rfl

theorem wrong_wf {u : S73} (h : wrongU u = false) : wfk u.f0 ∧ u.f1 < u.f2 := by
  unfold wrongU outB at h
  simp at h
  refine ⟨?_, by omega⟩
  exact WalkArith.wf_i64 (by omega)

/-- The world at a place is forgotten but for what is told of it. -/
theorem genW {G : World → Prop} {W : World} (F : World → Prop) (hF : F W) (h : ∀ wq, F wq → G wq) : G W := h W hF

/-- What a round keeps of the trace under way; bx: the round's own copy of the use. -/
def Mid (w : World) (T M bx : Nat) (lv gv : Value) (gs : List S52) (e : Int) (f : Int → Option Int) (cnt N : Nat) (u : S73) (wq : World) : Prop :=
  Below w.heap.size w wq ∧ wq.heap[T]? = some (.cells #[lv, gv, .map (some M), .int .i64 e] 71 (0, 0)) ∧ wq.heap[bx]? = some (.cells #[.int .i64 u.f0, .int .i64 u.f1, .int .i64 u.f2] 73 (0, 0)) ∧ wq.ownsRow w.heap.size 52 3 gv gs.length (gs.flatMap e52) ∧ IM Try.prog 3 elInt wq M f cnt N

/-- What holds of the world at a round's head. -/
def OpenInv (w : World) (T M : Nat) (lv : Value) (l : List S73) (i : Nat) (wr : World) : Prop :=
  Below w.heap.size w wr ∧ okTrace (l.take i) = true ∧ ∃ gv, wr.heap[T]? = some (.cells #[lv, gv, .map (some M), .int .i64 (endOf (l.take i))] 71 (0, 0)) ∧ wr.ownsRow w.heap.size 52 3 gv (gapsOf (l.take i)).length ((gapsOf (l.take i)).flatMap e52) ∧ IM Try.prog 3 elInt wr M (lastOf (l.take i)) (cntOf (l.take i)) i

theorem inv_step {w wq : World} {T M i N : Nat} {lv gv : Value} {l tk : List S73} {u : S73} (hB : Below w.heap.size w wq) (hok : okTrace tk = true) (hat : okAt tk u = true)
    (hT : wq.heap[T]? = some (.cells #[lv, gv, .map (some M), .int .i64 (mx (endOf tk) u.f2)] 71 (0, 0))) (hG : wq.ownsRow w.heap.size 52 3 gv (gapsOf (tk ++ [u])).length ((gapsOf (tk ++ [u])).flatMap e52))
    (hM : IM Try.prog 3 elInt wq M (lastOf (tk ++ [u])) (cntOf (tk ++ [u])) (N + 1)) (hTK : l.take i = tk ++ [u]) (hN : N + 1 = i) : OpenInv w T M lv l i wq := by
  subst hN
  unfold OpenInv
  rw [hTK, okTrace_snoc, hok, hat, endOf_snoc]
  exact ⟨hB, rfl, gv, hT, hG, hM⟩

theorem IM_snoc {wq : World} {M N : Nat} {tk : List S73} {u : S73} (h : IM Try.prog 3 elInt wq M (fun q => if q = u.f0 then some u.f2 else lastOf tk q) (if (lastOf tk u.f0).isSome then cntOf tk else cntOf tk + 1) (N + 1)) :
    IM Try.prog 3 elInt wq M (lastOf (tk ++ [u])) (cntOf (tk ++ [u])) (N + 1) := by
  have e1 : lastOf (tk ++ [u]) = fun q => if q = u.f0 then some u.f2 else lastOf tk q := by
    funext q
    rw [lastOf_snoc]
    by_cases h : u.f0 = q
    · simp [h]
    · have : ¬ q = u.f0 := fun e => h e.symm
      simp [h, this]
  have e2 : cntOf (tk ++ [u]) = if (lastOf tk u.f0).isSome then cntOf tk else cntOf tk + 1 := by
    rw [cntOf_snoc]
    cases (lastOf tk u.f0).isSome <;> simp
  rw [e1, e2]
  exact h

theorem chk_bad {l : List S73} {i : Nat} (hi : i < l.length) (h200 : ¬ l.length > 200) (hany : l.any wrongU = false) (hat : okAt (l.take i) l[i] = false) : chk l = 6 := by
  have e1 : l = l.take (i + 1) ++ l.drop (i + 1) := (List.take_append_drop _ _).symm
  have h2 : okTrace l = false := by
    rw [e1, okTrace_append, take_snoc' l i hi, okTrace_snoc, hat]
    simp
  simp [chk, h200, hany, h2]
theorem okAt_split (l : List S73) (i : Nat) (hi : i < l.length) (u : S73) : okAt (l.take i) u = (decide (i = 0 ∨ after (rd_T73 l ((i - 1 : Nat) : Int)) u = true) && (match lastOf (l.take i) u.f0 with | some t => decide (t < u.f1) | none => true)) := by
  unfold okAt
  congr 1
  rcases Nat.eq_zero_or_pos i with h | h
  · subst h; simp
  · have h1 : (l.take i).getLast? = some (rd_T73 l ((i - 1 : Nat) : Int)) := by
      rw [List.getLast?_eq_getElem?, List.length_take, Nat.min_eq_left (Nat.le_of_lt hi), List.getElem?_take_of_lt (by omega)]
      unfold rd_T73
      rw [Int.toNat_natCast, List.getD_eq_getElem?_getD, List.getElem?_eq_getElem (show i - 1 < l.length by omega)]
      rfl
    rw [h1]
    have : ¬ i = 0 := by omega
    cases hb : after (rd_T73 l ((i - 1 : Nat) : Int)) u <;> simp [this, hb]
theorem any_false {l : List S73} (h : l.any wrongU = false) (i : Nat) (hi : i < l.length) : wrongU l[i] = false := by
  have := List.any_eq_false.1 h l[i] (List.getElem_mem hi)
  simpa using this

theorem app_mid {w wp wa w5 : World} {T M bx N gg cap : Nat} {lv gv : Value} {gs : List S52} {e : Int} {f : Int → Option Int} {cnt : Nat} {u : S73} {x : S52} (hB : Below w.heap.size w wp) (hT : wp.heap[T]? = some (.cells #[lv, gv, .map (some M), .int .i64 e] 71 (0, 0)))
    (hX : wp.heap[bx]? = some (.cells #[.int .i64 u.f0, .int .i64 u.f1, .int .i64 u.f2] 73 (0, 0))) (hG : wp.ownsRow w.heap.size 52 3 gv gs.length (gs.flatMap e52)) (hM : IM Try.prog 3 elInt wp M f cnt N) (ha : Below wp.heap.size wp wa)
    (hown : w5.ownsRow w.heap.size 52 3 (.slice (some ⟨gg, 0, none⟩) (gs.length + 1) cap) (gs.length + 1) (gs.flatMap e52 ++ e52 x)) (hgr : wa.grownBy w5 gv.ownBlock) (hTB : w.heap.size ≤ T) :
    Mid w T M bx lv (.slice (some ⟨gg, 0, none⟩) (gs.length + 1) cap) (gs ++ [x]) e f cnt N u (w5.setCell ⟨T, 1, none⟩ (.slice (some ⟨gg, 0, none⟩) (gs.length + 1) cap)) := by
  have hneT : gv.ownBlock ≠ some T := fun h => own_ne hG hT (by decide) h.symm
  have hneX : gv.ownBlock ≠ some bx := fun h => own_ne hG hX (by decide) h.symm
  have hneM : gv.ownBlock ≠ some M := by
    intro h
    obtain ⟨cs, hcs⟩ := own_typed hG _ h
    exact hM.ne hcs rfl
  have hT5 := blk_grown (blk_below hT ha) hgr (fun h => hneT h.symm)
  have hX5 := blk_grown (blk_below hX ha) hgr (fun h => hneX h.symm)
  have hM5 := (hM.block (ha.block M hM.lt)).kept hgr (fun h => hneM h.symm)
  have hB5 : Below w.heap.size w w5 := (below_step hB ha).grown hgr (Nat.le_trans hB.size ha.size) (own_base hG)
  have hne : T ≠ bx := blk_ne hT hX (by decide)
  refine ⟨hB5.setCell hTB _, ?_, ?_, ?_, ?_⟩
  · exact blk_set hT5 1 _
  · exact blk_far hX5 (fun h => hne h.symm) _
  · have h2 := own_setCell hown (p := ⟨T, 1, none⟩) (own_ne hown hT5 (by decide)) (.slice (some ⟨gg, 0, none⟩) (gs.length + 1) cap)
    refine (show (w5.setCell ⟨T, 1, none⟩ (.slice (some ⟨gg, 0, none⟩) (gs.length + 1) cap)).ownsRow w.heap.size 52 3 (.slice (some ⟨gg, 0, none⟩) (gs.length + 1) cap) (gs ++ [x]).length ((gs ++ [x]).flatMap e52) from ?_)
    simpa using h2
  · exact hM5.block (Below.heap_setCell _ _ _ _ (fun h => hM5.ne hT5 h.symm))

theorem mid_mk {w wr W : World} {T M bx N : Nat} {lv gv : Value} {gs : List S52} {e : Int} {f : Int → Option Int} {cnt : Nat} {u : S73} (hB : Below w.heap.size w wr) (hT : wr.heap[T]? = some (.cells #[lv, gv, .map (some M), .int .i64 e] 71 (0, 0)))
    (hG : wr.ownsRow w.heap.size 52 3 gv gs.length (gs.flatMap e52)) (hM : IM Try.prog 3 elInt wr M f cnt N) (hW : Below wr.heap.size wr W) (hX : W.heap[bx]? = some (.cells #[.int .i64 u.f0, .int .i64 u.f1, .int .i64 u.f2] 73 (0, 0))) : Mid w T M bx lv gv gs e f cnt N u W :=
  ⟨below_step hB hW, blk_below hT hW, hX, pw_own_below hG hW, hM.block (hW.block M hM.lt)⟩

theorem turned_keeps {w w' : World} {M : Nat} (h : w.mapTurned w' M) {g : Nat} {o : Obj} (hg : w.heap[g]? = some o) (hne : g ≠ M) : w'.heap[g]? = some o :=
  (h.grown.block g (blk_lt hg) (fun e => hne (by injection e))).trans hg

set_option maxRecDepth 100000 in
set_option maxHeartbeats 8000000 in
theorem open_any (A : Option Addr) (c : Nat) (l : List S73) (w : World) (hC : Kd.C k73 w A l.length l) (hc : l.length ≤ c) :
    Calls Try.prog 42 #[.slice A l.length c] w (OpenPost (.slice A l.length c) l w) := by
  have hmm := @run_makeMap Try.prog
  have HC := Aside0.mk hC
  clear hC
  by_cases h200 : l.length > 200
  · have hk : chk l = 3 := by simp [chk, h200]
    have HK := Aside0.mk hk
    clear hk
    go_enter Try.func42, Try.ntmps42
    go_wp2
    go_ret2
    exact ⟨Below.refl _ _, .inl ⟨by rw [HK.out]; decide, by rw [HK.out]; rfl⟩⟩
  · have hw := has_wrong A c l w HC.out
    cases hany : l.any wrongU with
    | true =>
      have HK := Aside0.mk (show chk l = 7 by simp [chk, h200, hany])
      have HW := Aside0.mk hw
      rw [hany] at hw
      clear hany HW
      go_enter Try.func42, Try.ntmps42
      go_wp2_with (go_at_call 62; refine hw.mono ?_; rintro e w1 ⟨rfl, hb1⟩)
      go_ret2
      exact ⟨hb1, .inl ⟨by rw [HK.out]; decide, by rw [HK.out]; rfl⟩⟩
    | false =>
      rw [hany] at hw
      have HA := Aside0.mk hany
      clear hany
      go_enter Try.func42, Try.ntmps42
      go_wp2_with (go_at_call 62; refine hw.mono ?_; rintro e w1 ⟨rfl, hb1⟩)
      have HB1 := Aside0.mk hb1
      have hsz := hb1.size
      clear hb1 hw
      go_loopw [22] (fun v22 wr => ∃ i : Nat, i ≤ l.length ∧ v22 = .int .i64 i ∧ Aside0 (OpenInv w (w1.heap.size + 1) w1.heap.size (.slice A l.length c) l i wr)) (fun v22 wr => l.length - (intOf v22).toNat)
      case atStart =>
        refine ⟨0, Nat.zero_le _, rfl, ⟨?_⟩⟩
        have hM := IM.made Try.prog 3 elInt w1
        refine ⟨((HB1.out.alloc hsz _).alloc (by simp; omega) _), rfl, .slice none 0 0, ?_, own_nil _ _ _ _, ?_⟩
        · have := heap_alloc_new (w1.alloc (.map #[] 0)) (.cells #[.slice A l.length c, .slice none 0 0, .map (some w1.heap.size), .int .i64 0] 71)
          simpa [endOf] using this
        · exact (hM.kept (World.grownBy_alloc _ _ none) (by simp) : _)
      case round =>
        obtain ⟨i, hi, rfl, HI⟩ := hrel
        obtain ⟨hB, hok, gv, hT, hg, hM⟩ := HI.out
        by_cases hlt : i < l.length
        · have hC1 := Kd.C_below HC.out hB
          have hltz : (i : Int) < (l.length : Int) := by omega
          have hi0 : (0 : Int) ≤ (i : Int) := by omega
          obtain ⟨ad, rfl, hx0, hx1, hx2⟩ := at_T73 hC1 (i : Int) hi0 hltz
          have hwu := any_false HA.out i hlt
          have hck := fun h => chk_bad hlt h200 HA.out h
          have hu : rd_T73 l (i : Int) = l[i] := by
            unfold rd_T73
            rw [Int.toNat_natCast, List.getD_eq_getElem?_getD, List.getElem?_eq_getElem hlt]
            rfl
          rw [hu] at hx0 hx1 hx2
          simp only [Int.toNat_natCast] at hx0 hx1 hx2
          have htk := take_snoc' l i hlt
          generalize l[i] = u at *
          have c0 : wr.cell? ⟨w1.heap.size + 1, 0, none⟩ = some (.slice (some ad) l.length c) := (blk_cell hT 0).trans rfl
          have c1 : wr.cell? ⟨w1.heap.size + 1, 1, none⟩ = some gv := (blk_cell hT 1).trans rfl
          have c2 : wr.cell? ⟨w1.heap.size + 1, 2, none⟩ = some (.map (some w1.heap.size)) := (blk_cell hT 2).trans rfl
          have c3 : wr.cell? ⟨w1.heap.size + 1, 3, none⟩ = some (.int .i64 (endOf (l.take i))) := (blk_cell hT 3).trans rfl
          have HT := Aside0.mk hT
          have HG := Aside0.mk hg
          have HM := Aside0.mk hM
          have HOK := Aside0.mk hok
          have HBB := Aside0.mk hB
          have HTK := Aside0.mk htk
          have HU := Aside0.mk hu
          have HWU := Aside0.mk hwu
          have HCK := Aside0.mk hck
          clear hwu hck hT hg hM hok hB HI htk hu hC1
          have hwf := wrong_wf HWU.out
          have HWF := Aside0.mk hwf.1
          clear hwf
          by_cases hg0 : 0 < i ∧ after (rd_T73 l ((i - 1 : Nat) : Int)) u = false
          · obtain ⟨h0, hau⟩ := hg0
            have hk6 := HCK.out (by rw [okAt_split l i hlt u, hau]; have : ¬ i = 0 := (by omega); simp [this])
            have HK6 := Aside0.mk hk6
            clear hk6
            obtain ⟨j, rfl⟩ : ∃ j, i = j + 1 := ⟨i - 1, by omega⟩
            obtain ⟨ad', e', hy0, hy1, hy2⟩ := at_T73 (Kd.C_below HC.out HBB.out) (j : Int) (by omega) (by omega)
            injection e' with e'
            subst e'
            simp only [Int.toNat_natCast] at hy0 hy1 hy2
            rw [show (j + 1 - 1) = j from by omega] at hau
            generalize rd_T73 l (j : Int) = a at hau hy0 hy1 hy2
            have hpos : decide ((j : Int) + 1 > 0) = true := by simp
            have hsg := after_or a u
            rw [hau] at hsg
            have hge : 0 ≤ orI (cmpI a.f1 u.f1) (cmpI a.f0 u.f0) := by simpa using hsg
            clear hsg hau h0
            have hjl : (j : Int) < (l.length : Int) := by omega
            have hw1 : IntKind.i64.wrap (((j + 1 : Nat) : Int) - 1) = (j : Int) := by rw [show ((j + 1 : Nat) : Int) - 1 = (j : Int) from by omega]; exact IntWalk.i64_in _ (by omega)
            have hw2 : IntKind.i64.wrap ((j : Int) + 1 - 1) = (j : Int) := by rw [show ((j : Int) + 1) - 1 = (j : Int) from by omega]; exact IntWalk.i64_in _ (by omega)
            have hw3 : IntKind.i64.wrap (j : Int) = (j : Int) := IntWalk.i64_in _ (by omega)
            have hj0 : (0 : Int) ≤ (j : Int) := by omega
            have hj1 : ((j : Int)).toNat = j := by omega
            go_wp2
            go_region_held3 (fun w' => w'.cell? (ad.add (j * 3)) = some (.int .i64 a.f0) ∧ w'.cell? ⟨(ad.add (j * 3)).block, (ad.add (j * 3)).off + 1, none⟩ = some (.int .i64 a.f1) ∧ w'.cell? ⟨wr.heap.size, 0, none⟩ = some (.int .i64 u.f0) ∧ w'.cell? ⟨wr.heap.size, 1, none⟩ = some (.int .i64 u.f1))
            (first | go_keep | (refine ⟨?_, ?_, ?_, ?_⟩ <;> go_simp))
            (first | (go_at_call 46; refine (cmp64_any _ _ _).mono ?_; rintro e w' ⟨rfl, rfl⟩) | (go_at_call 47; refine (cmp_any _ _ _).mono ?_; rintro e w' ⟨rfl, rfl⟩) | (go_at_call 63; refine (or_two _ (cmpI a.f1 u.f1) (cmpI a.f0 u.f0) _ ?c1 ?c2).mono ?_; (case c1 => go_simp); (case c2 => go_simp); rintro e w1 ⟨rfl, rfl⟩))
            go_wp2
            go_ret2
            exact ⟨by repeat (first | exact HBB.out | apply below_drew | apply pw_below_drewN | apply below_alloc), .inl ⟨by rw [HK6.out]; decide, by rw [HK6.out]; rfl⟩⟩
          have hnext : okAt (l.take i) u = (match lastOf (l.take i) u.f0 with | some t => decide (t < u.f1) | none => true) := by
            rw [okAt_split l i hlt u]
            have : (decide (i = 0 ∨ after (rd_T73 l ((i - 1 : Nat) : Int)) u = true)) = true := by
              rw [decide_eq_true_eq]
              rcases Nat.eq_zero_or_pos i with h | h
              · exact .inl h
              · cases hb : after (rd_T73 l ((i - 1 : Nat) : Int)) u with
                | true => exact .inr rfl
                | false => exact absurd ⟨h, hb⟩ hg0
            rw [this, Bool.true_and]
          have HN := Aside0.mk hnext
          have HTKL := Aside0.mk (show (l.take i).length ≤ 200 by rw [List.length_take]; omega)
          clear hnext
          generalize l.take i = tk at HT HG HM HOK HTK HN HCK HTKL c3
          obtain ⟨N, hN⟩ : ∃ N, i = N := ⟨i, rfl⟩
          have HM' := Aside0.mk (show IM Try.prog 3 elInt wr w1.heap.size (lastOf tk) (cntOf tk) N from hN ▸ HM.out)
          clear HM
          have HNN := Aside0.mk hN
          clear hN
          rcases Nat.eq_zero_or_pos i with h0 | h0
          focus
            subst h0
            have ea : ad.add 0 = ad := rfl
            simp only [Nat.zero_mul, ea] at hx0 hx1 hx2
            clear ea
            have hz0 : ((0 : Nat) : Int) = 0 := rfl
            rw [hz0]
            go_wp2
            go_quiet (fail)
            go_wp2
            refine genW (Mid w (w1.heap.size + 1) w1.heap.size wr.heap.size (.slice (some ad) l.length c) gv (gapsOf tk) (endOf tk) (lastOf tk) (cntOf tk) N u) ?mid ?_
            case mid => exact mid_mk HBB.out HT.out HG.out HM'.out (by repeat (first | exact Below.refl _ _ | apply below_drew | apply pw_below_drewN | apply below_alloc)) (by (with_reducible repeat (first | refine blk_drewN ?_ _ | refine blk_drew ?_ | exact blk_new _ _ | refine blk_alloc ?_ _)))
          rotate_left
          focus
            obtain ⟨j, hj⟩ : ∃ j, i = j + 1 := ⟨i - 1, by omega⟩
            have hau : after (rd_T73 l (j : Int)) u = true := by
              cases h : after (rd_T73 l (j : Int)) u with
              | true => rfl
              | false => exact absurd ⟨h0, by rw [show i - 1 = j from by omega]; exact h⟩ hg0
            obtain ⟨ad', e', hy0, hy1, hy2⟩ := at_T73 (Kd.C_below HC.out HBB.out) (j : Int) (by omega) (by omega)
            injection e' with e'
            subst e'
            simp only [Int.toNat_natCast] at hy0 hy1 hy2
            generalize rd_T73 l (j : Int) = a at hau hy0 hy1 hy2
            have hpos : decide ((j : Int) + 1 > 0) = true := by simp
            have hsg := after_or a u
            rw [hau] at hsg
            have hlt0 : orI (cmpI a.f1 u.f1) (cmpI a.f0 u.f0) < 0 := by simpa using hsg
            clear hsg hau hg0
            have hjl : (j : Int) < (l.length : Int) := by omega
            subst hj
            clear h0
            have hw1 : IntKind.i64.wrap (((j + 1 : Nat) : Int) - 1) = (j : Int) := by rw [show ((j + 1 : Nat) : Int) - 1 = (j : Int) from by omega]; exact IntWalk.i64_in _ (by omega)
            have hw2 : IntKind.i64.wrap ((j : Int) + 1 - 1) = (j : Int) := by rw [show ((j : Int) + 1) - 1 = (j : Int) from by omega]; exact IntWalk.i64_in _ (by omega)
            have hw3 : IntKind.i64.wrap (j : Int) = (j : Int) := IntWalk.i64_in _ (by omega)
            have hj0 : (0 : Int) ≤ (j : Int) := by omega
            have hj1 : ((j : Int)).toNat = j := by omega
            go_wp2
            go_region_held3 (fun w' => w'.cell? (ad.add (j * 3)) = some (.int .i64 a.f0) ∧ w'.cell? ⟨(ad.add (j * 3)).block, (ad.add (j * 3)).off + 1, none⟩ = some (.int .i64 a.f1) ∧ w'.cell? ⟨wr.heap.size, 0, none⟩ = some (.int .i64 u.f0) ∧ w'.cell? ⟨wr.heap.size, 1, none⟩ = some (.int .i64 u.f1))
            (first | go_keep | (refine ⟨?_, ?_, ?_, ?_⟩ <;> go_simp))
            (first | (go_at_call 46; refine (cmp64_any _ _ _).mono ?_; rintro e w' ⟨rfl, rfl⟩) | (go_at_call 47; refine (cmp_any _ _ _).mono ?_; rintro e w' ⟨rfl, rfl⟩) | (go_at_call 63; refine (or_two _ (cmpI a.f1 u.f1) (cmpI a.f0 u.f0) _ ?c1 ?c2).mono ?_; (case c1 => go_simp); (case c2 => go_simp); rintro e w1 ⟨rfl, rfl⟩))
            go_wp2
            refine genW (Mid w (w1.heap.size + 1) w1.heap.size wr.heap.size (.slice (some ad) l.length c) gv (gapsOf tk) (endOf tk) (lastOf tk) (cntOf tk) N u) ?mid ?_
            case mid => exact mid_mk HBB.out HT.out HG.out HM'.out (by repeat (first | exact Below.refl _ _ | apply below_drew | apply pw_below_drewN | apply below_alloc)) (by (with_reducible repeat (first | refine blk_drewN ?_ _ | refine blk_drew ?_ | exact blk_new _ _ | refine blk_alloc ?_ _)))
          all_goals
            rintro wq ⟨hBq, hTq, hXq, hGq, hMq⟩
            cases hlo : lastOf tk u.f0 with
            | none =>
              have hlk : ∀ W : World, W.heap[w1.heap.size]? = wq.heap[w1.heap.size]? → (Instr.lookup 69 (.map (some w1.heap.size)) (.int .i64 u.f0) true).run Try.prog W = .ok (.tuple #[.int .i64 0, .bool false]) W := fun W hW => by
                have := (hMq.block hW).look (z := 0) Try.underlying3 Try.underlying69 (zero2 W) HWF.out
                rw [hlo] at this
                exact this
              have hlk1 := hlk wq.drew rfl
              have HLO := Aside0.mk hlo
              have HNB := Aside0.mk (show N < maxLen by have := HNN.out; unfold maxLen; omega)
              clear hlk hlo c0 c1 c2 c3 hx0 hx1 hx2
              have d1 : wq.cell? ⟨w1.heap.size + 1, 1, none⟩ = some gv := (blk_cell hTq 1).trans rfl
              have d2 : wq.cell? ⟨w1.heap.size + 1, 2, none⟩ = some (.map (some w1.heap.size)) := (blk_cell hTq 2).trans rfl
              have d3 : wq.cell? ⟨w1.heap.size + 1, 3, none⟩ = some (.int .i64 (endOf tk)) := (blk_cell hTq 3).trans rfl
              have f1 : wq.frozen? ⟨w1.heap.size + 1, 1, none⟩ = false := blk_frozen hTq 1
              have f3 : wq.frozen? ⟨w1.heap.size + 1, 3, none⟩ = false := blk_frozen hTq 3
              have x0 : wq.cell? ⟨wr.heap.size, 0, none⟩ = some (.int .i64 u.f0) := (blk_cell hXq 0).trans rfl
              have x1 : wq.cell? ⟨wr.heap.size, 1, none⟩ = some (.int .i64 u.f1) := (blk_cell hXq 1).trans rfl
              have x2 : wq.cell? ⟨wr.heap.size, 2, none⟩ = some (.int .i64 u.f2) := (blk_cell hXq 2).trans rfl
              have HTq := Aside0.mk hTq
              have HXq := Aside0.mk hXq
              have HGq := Aside0.mk hGq
              have HMq := Aside0.mk hMq
              have HBq := Aside0.mk hBq
              clear hTq hXq hGq hMq hBq
              go_region_held3 (fun w' => w'.cell? ⟨w1.heap.size + 1, 2, none⟩ = some (.map (some w1.heap.size)) ∧ w'.cell? ⟨wr.heap.size, 0, none⟩ = some (.int .i64 u.f0) ∧ (Instr.lookup 69 (.map (some w1.heap.size)) (.int .i64 u.f0) true).run Try.prog w' = .ok (.tuple #[.int .i64 0, .bool false]) w')
                (first | go_keep | (refine ⟨?_, ?_, ?_⟩ <;> first | assumption | go_simp)) (fail)
              go_wp2
              refine genW (Mid w (w1.heap.size + 1) w1.heap.size wr.heap.size (.slice (some ad) l.length c) gv (gapsOf tk) (endOf tk) (lastOf tk) (cntOf tk) N u) ⟨below_drew HBq.out, HTq.out, HXq.out, HGq.out, HMq.out.block rfl⟩ ?_
              clear hlk1
              clear d1 d2 d3 f1 f3 x0 x1 x2 HTq HXq HGq HMq HBq
              rintro ws ⟨hBq, hTq, hXq, hGq, hMq⟩
              have d1 : ws.cell? ⟨w1.heap.size + 1, 1, none⟩ = some gv := (blk_cell hTq 1).trans rfl
              have d2 : ws.cell? ⟨w1.heap.size + 1, 2, none⟩ = some (.map (some w1.heap.size)) := (blk_cell hTq 2).trans rfl
              have d3 : ws.cell? ⟨w1.heap.size + 1, 3, none⟩ = some (.int .i64 (endOf tk)) := (blk_cell hTq 3).trans rfl
              have f1 : ws.frozen? ⟨w1.heap.size + 1, 1, none⟩ = false := blk_frozen hTq 1
              have f3 : ws.frozen? ⟨w1.heap.size + 1, 3, none⟩ = false := blk_frozen hTq 3
              have x0 : ws.cell? ⟨wr.heap.size, 0, none⟩ = some (.int .i64 u.f0) := (blk_cell hXq 0).trans rfl
              have x1 : ws.cell? ⟨wr.heap.size, 1, none⟩ = some (.int .i64 u.f1) := (blk_cell hXq 1).trans rfl
              have x2 : ws.cell? ⟨wr.heap.size, 2, none⟩ = some (.int .i64 u.f2) := (blk_cell hXq 2).trans rfl
              have HTq := Aside0.mk hTq
              have HXq := Aside0.mk hXq
              have HGq := Aside0.mk hGq
              have HMq := Aside0.mk hMq
              have HBq := Aside0.mk hBq
              clear hTq hXq hGq hMq hBq
              obtain ⟨w3, hst, hM3, htu⟩ := (HMq.out.block (w' := ws.drew) rfl).store Try.underlying3 Try.underlying69 HNB.out HWF.out u.f2
              replace hst : (Instr.mapUpdate 69 (.map (some w1.heap.size)) (.int .i64 u.f0) (.int .i64 u.f2)).run Try.prog ws.drew = .ok () w3 := hst
              have hMne : ∀ {g : Nat} {cc : Array Value} {tt : TypeId}, ws.heap[g]? = some (.cells cc tt (0, 0)) → g ≠ w1.heap.size := fun h => HMq.out.ne h
              have hT3 := turned_keeps htu (show ws.drew.heap[w1.heap.size + 1]? = _ from HTq.out) (hMne HTq.out)
              have hX3 := turned_keeps htu (show ws.drew.heap[wr.heap.size]? = _ from HXq.out) (hMne HXq.out)
              have hG3 : w3.ownsRow w.heap.size 52 3 gv ((gapsOf tk)).length (((gapsOf tk)).flatMap e52) := own_other (show ws.drew.ownsRow w.heap.size 52 3 gv ((gapsOf tk)).length (((gapsOf tk)).flatMap e52) from HGq.out) htu.grown (by
                cases hob : Value.ownBlock gv with
                | none => exact .inl rfl
                | some k =>
                  obtain ⟨cs, hcs⟩ := own_typed HGq.out k hob
                  exact .inr (fun e => hMne hcs (by injection e)))
              have hB3 : Below w.heap.size w w3 := (below_drew HBq.out).grown htu.grown HBq.out.size (fun k hk => by injection hk with hk; omega)
              have hM4 := IM_snoc hM3
              have y2 : w3.cell? ⟨w1.heap.size + 1, 2, none⟩ = some (.map (some w1.heap.size)) := (blk_cell hT3 2).trans rfl
              have z0 : w3.cell? ⟨wr.heap.size, 0, none⟩ = some (.int .i64 u.f0) := (blk_cell hX3 0).trans rfl
              have z2 : w3.cell? ⟨wr.heap.size, 2, none⟩ = some (.int .i64 u.f2) := (blk_cell hX3 2).trans rfl
              have HX3 := Aside0.mk hX3
              have HT3 := Aside0.mk hT3
              have HG3 := Aside0.mk hG3
              have HB3 := Aside0.mk hB3
              have HM4 := Aside0.mk hM4
              clear hT3 hX3 hG3 hB3 hM3 hM4 htu hMne
              go_region_held3 (fun w' => w'.cell? ⟨w1.heap.size + 1, 2, none⟩ = some (.map (some w1.heap.size)) ∧ w'.cell? ⟨wr.heap.size, 0, none⟩ = some (.int .i64 u.f0) ∧ w'.cell? ⟨wr.heap.size, 2, none⟩ = some (.int .i64 u.f2))
                (first | go_keep | (refine ⟨?_, ?_, ?_⟩ <;> first | assumption | go_simp)) (fail)
              go_wp2
              refine genW (Mid w (w1.heap.size + 1) w1.heap.size wr.heap.size (.slice (some ad) l.length c) gv (gapsOf tk) (endOf tk) (lastOf (tk ++ [u])) (cntOf (tk ++ [u])) (N + 1) u) ⟨HB3.out, HT3.out, HX3.out, HG3.out, HM4.out⟩ ?_
              clear y2 z0 z2 HX3 HT3 HG3 HB3 HM4 hst
              clear d1 d2 d3 f1 f3 x0 x1 x2 HTq HXq HGq HMq HBq
              rintro wt ⟨hBq, hTq, hXq, hGq, hMq⟩
              have d1 : wt.cell? ⟨w1.heap.size + 1, 1, none⟩ = some gv := (blk_cell hTq 1).trans rfl
              have d2 : wt.cell? ⟨w1.heap.size + 1, 2, none⟩ = some (.map (some w1.heap.size)) := (blk_cell hTq 2).trans rfl
              have d3 : wt.cell? ⟨w1.heap.size + 1, 3, none⟩ = some (.int .i64 (endOf tk)) := (blk_cell hTq 3).trans rfl
              have f1 : wt.frozen? ⟨w1.heap.size + 1, 1, none⟩ = false := blk_frozen hTq 1
              have f3 : wt.frozen? ⟨w1.heap.size + 1, 3, none⟩ = false := blk_frozen hTq 3
              have x0 : wt.cell? ⟨wr.heap.size, 0, none⟩ = some (.int .i64 u.f0) := (blk_cell hXq 0).trans rfl
              have x1 : wt.cell? ⟨wr.heap.size, 1, none⟩ = some (.int .i64 u.f1) := (blk_cell hXq 1).trans rfl
              have x2 : wt.cell? ⟨wr.heap.size, 2, none⟩ = some (.int .i64 u.f2) := (blk_cell hXq 2).trans rfl
              have HTq := Aside0.mk hTq
              have HXq := Aside0.mk hXq
              have HGq := Aside0.mk hGq
              have HMq := Aside0.mk hMq
              have HBq := Aside0.mk hBq
              clear hTq hXq hGq hMq hBq
              have hmx : (if endOf tk < u.f2 then u.f2 else endOf tk) = mx (endOf tk) u.f2 := rfl
              go_region
              go_wp2
              go_roundw
              case rel =>
                have hT5 : ((wt.setCell ⟨w1.heap.size + 1, 3, none⟩ (.int .i64 (mx (endOf tk) u.f2))).drew).heap[w1.heap.size + 1]? = some (.cells #[.slice (some ad) l.length c, gv, .map (some w1.heap.size), .int .i64 (mx (endOf tk) u.f2)] 71 (0, 0)) := by
                  have := blk_set HTq.out 3 (.int .i64 (mx (endOf tk) u.f2))
                  exact this
                have hG5 := own_setCell HGq.out (p := ⟨w1.heap.size + 1, 3, none⟩) (own_ne HGq.out HTq.out (by decide)) (.int .i64 (mx (endOf tk) u.f2))
                have hM5 := HMq.out.block (w' := (wt.setCell ⟨w1.heap.size + 1, 3, none⟩ (.int .i64 (mx (endOf tk) u.f2))).drew) (Below.heap_setCell _ _ _ _ (fun e => by simp at e))
                have hB5 : Below w.heap.size w ((wt.setCell ⟨w1.heap.size + 1, 3, none⟩ (.int .i64 (mx (endOf tk) u.f2))).drew) := below_drew (HBq.out.setCell (by simp; omega) _)
                have hgg : (gapsOf tk) = gapsOf (tk ++ [u]) := by
                  rw [gapsOf_snoc]
                  simp [gapOf, HLO.out]
                rw [hgg] at hG5
                have hat : okAt tk u = true := by rw [HN.out, HLO.out]
                have hinv : ∀ i', l.take i' = tk ++ [u] → N + 1 = i' → OpenInv w (w1.heap.size + 1) w1.heap.size (.slice (some ad) l.length c) l i' ((wt.setCell ⟨w1.heap.size + 1, 3, none⟩ (.int .i64 (mx (endOf tk) u.f2))).drew) := fun i' h1 h2 => inv_step hB5 HOK.out hat hT5 hG5 hM5 h1 h2
                first
                  | exact ⟨j + 1 + 1, by omega, by go_num, ⟨hinv _ HTK.out (by have := HNN.out; omega)⟩⟩
                  | exact ⟨1, by omega, rfl, ⟨hinv _ HTK.out (by have := HNN.out; omega)⟩⟩
              case measure => simp [intOf]; omega
            | some tq =>
              have hlk : ∀ W : World, W.heap[w1.heap.size]? = wq.heap[w1.heap.size]? → (Instr.lookup 69 (.map (some w1.heap.size)) (.int .i64 u.f0) true).run Try.prog W = .ok (.tuple #[.int .i64 tq, .bool true]) W := fun W hW => by
                have := (hMq.block hW).look (z := 0) Try.underlying3 Try.underlying69 (zero2 W) HWF.out
                rw [hlo] at this
                exact this
              have hlk1 := hlk wq.drew rfl
              have HLO := Aside0.mk hlo
              have HNB := Aside0.mk (show N < maxLen by have := HNN.out; unfold maxLen; omega)
              clear hlk hlo c0 c1 c2 c3 hx0 hx1 hx2
              have d1 : wq.cell? ⟨w1.heap.size + 1, 1, none⟩ = some gv := (blk_cell hTq 1).trans rfl
              have d2 : wq.cell? ⟨w1.heap.size + 1, 2, none⟩ = some (.map (some w1.heap.size)) := (blk_cell hTq 2).trans rfl
              have d3 : wq.cell? ⟨w1.heap.size + 1, 3, none⟩ = some (.int .i64 (endOf tk)) := (blk_cell hTq 3).trans rfl
              have f1 : wq.frozen? ⟨w1.heap.size + 1, 1, none⟩ = false := blk_frozen hTq 1
              have f3 : wq.frozen? ⟨w1.heap.size + 1, 3, none⟩ = false := blk_frozen hTq 3
              have x0 : wq.cell? ⟨wr.heap.size, 0, none⟩ = some (.int .i64 u.f0) := (blk_cell hXq 0).trans rfl
              have x1 : wq.cell? ⟨wr.heap.size, 1, none⟩ = some (.int .i64 u.f1) := (blk_cell hXq 1).trans rfl
              have x2 : wq.cell? ⟨wr.heap.size, 2, none⟩ = some (.int .i64 u.f2) := (blk_cell hXq 2).trans rfl
              have HTq := Aside0.mk hTq
              have HXq := Aside0.mk hXq
              have HGq := Aside0.mk hGq
              have HMq := Aside0.mk hMq
              have HBq := Aside0.mk hBq
              clear hTq hXq hGq hMq hBq
              by_cases hle : u.f1 ≤ tq
              · go_region_held3 (fun w' => w'.cell? ⟨w1.heap.size + 1, 2, none⟩ = some (.map (some w1.heap.size)) ∧ w'.cell? ⟨wr.heap.size, 0, none⟩ = some (.int .i64 u.f0) ∧ (Instr.lookup 69 (.map (some w1.heap.size)) (.int .i64 u.f0) true).run Try.prog w' = .ok (.tuple #[.int .i64 tq, .bool true]) w')
                  (first | go_keep | (refine ⟨?_, ?_, ?_⟩ <;> first | assumption | go_simp)) (fail)
                go_wp2
                go_ret2
                have hk := HCK.out (by rw [HN.out, HLO.out]; simp; omega)
                exact ⟨below_drew HBq.out, .inl ⟨by rw [hk]; decide, by rw [hk]; rfl⟩⟩
              have hlt2 : tq < u.f1 := by omega
              clear hle
              go_region_held3 (fun w' => w'.cell? ⟨w1.heap.size + 1, 2, none⟩ = some (.map (some w1.heap.size)) ∧ w'.cell? ⟨wr.heap.size, 0, none⟩ = some (.int .i64 u.f0) ∧ (Instr.lookup 69 (.map (some w1.heap.size)) (.int .i64 u.f0) true).run Try.prog w' = .ok (.tuple #[.int .i64 tq, .bool true]) w')
                (first | go_keep | (refine ⟨?_, ?_, ?_⟩ <;> first | assumption | go_simp)) (fail)
              go_wp2
              refine genW (Mid w (w1.heap.size + 1) w1.heap.size wr.heap.size (.slice (some ad) l.length c) gv (gapsOf tk) (endOf tk) (lastOf tk) (cntOf tk) N u) ⟨below_drew HBq.out, HTq.out, HXq.out, HGq.out, HMq.out.block rfl⟩ ?_
              clear hlk1
              clear d1 d2 d3 f1 f3 x0 x1 x2 HTq HXq HGq HMq HBq
              rintro wp ⟨hBq, hTq, hXq, hGq, hMq⟩
              have d1 : wp.cell? ⟨w1.heap.size + 1, 1, none⟩ = some gv := (blk_cell hTq 1).trans rfl
              have d2 : wp.cell? ⟨w1.heap.size + 1, 2, none⟩ = some (.map (some w1.heap.size)) := (blk_cell hTq 2).trans rfl
              have d3 : wp.cell? ⟨w1.heap.size + 1, 3, none⟩ = some (.int .i64 (endOf tk)) := (blk_cell hTq 3).trans rfl
              have f1 : wp.frozen? ⟨w1.heap.size + 1, 1, none⟩ = false := blk_frozen hTq 1
              have f3 : wp.frozen? ⟨w1.heap.size + 1, 3, none⟩ = false := blk_frozen hTq 3
              have x0 : wp.cell? ⟨wr.heap.size, 0, none⟩ = some (.int .i64 u.f0) := (blk_cell hXq 0).trans rfl
              have x1 : wp.cell? ⟨wr.heap.size, 1, none⟩ = some (.int .i64 u.f1) := (blk_cell hXq 1).trans rfl
              have x2 : wp.cell? ⟨wr.heap.size, 2, none⟩ = some (.int .i64 u.f2) := (blk_cell hXq 2).trans rfl
              have HTq := Aside0.mk hTq
              have HXq := Aside0.mk hXq
              have HGq := Aside0.mk hGq
              have HMq := Aside0.mk hMq
              have HBq := Aside0.mk hBq
              clear hTq hXq hGq hMq hBq
              obtain ⟨i0, hi0, hz0, hz1, hz2⟩ := info_parts info52'
              have hneT : gv.ownBlock ≠ some (w1.heap.size + 1) := fun h => own_ne HGq.out HTq.out (by decide) h.symm
              have hneX : gv.ownBlock ≠ some wr.heap.size := fun h => own_ne HGq.out HXq.out (by decide) h.symm
              have HZ := Aside0.mk (show w1.heap.size + 1 < wp.heap.size ∧ wr.heap.size < wp.heap.size from ⟨blk_lt HTq.out, blk_lt HXq.out⟩)
              have hzz1 : w1.heap.size + 1 < wp.heap.size := HZ.out.1
              have hzz2 : wr.heap.size < wp.heap.size := HZ.out.2
              have HGL := Aside0.mk (show (gapsOf tk).length ≤ 300 by have := gapsOf_len tk; have h1 := HTKL.out; omega)
              go_cut [67] (fun s67 wc => ∃ gg cap, Mid w (w1.heap.size + 1) w1.heap.size wr.heap.size (.slice (some ad) l.length c) (.slice (some ⟨gg, 0, none⟩) ((gapsOf tk).length + 1) cap) (gapsOf tk ++ [(⟨u.f0, tq, u.f1⟩ : S52)]) (endOf tk) (lastOf tk) (cntOf tk) N u wc)
              case first =>
                go_region_law (refine step_append_lies _ (by rfl) _ _ _ (by rfl) w.heap.size 52 i0 _ 3 24 Try.underlying46 hi0 hz0 hz1 hz2 rfl (by omega) gv (gapsOf tk).length ((gapsOf tk).flatMap e52) (by rfl) ((HGq.out.alloc _).drew) ⟨wp.heap.size, 0, none⟩ 1 1 [.int .i64 u.f0, .int .i64 tq, .int .i64 u.f1] (by rfl) (by rfl) (World.news_of_block (cs := #[.int .i64 u.f0, .int .i64 tq, .int .i64 u.f1]) (t := 52) (fr := (0, 0)) (heap_alloc_new wp _)) (by simp [Value.oneCell']) (by omega) (by have := HGL.out; simp only [maxLen]; omega) (by have := HGL.out; omega) (by have := HBq.out.size; simp; omega) (wp.heap.size + 1) (by simp) ?_; intro gg cap w5 hown5 hgr5 hat5 hlt5; have e1 : w5.cell? ⟨w1.heap.size + 1, 1, none⟩ = some gv := (by rw [hgr5.cell_far _ (by have := HZ.out; simp; omega) (fun h => hneT h.symm)]; exact (blk_cell (blk_alloc HTq.out _) 1).trans rfl); have e2 : w5.frozen? ⟨w1.heap.size + 1, 1, none⟩ = false := (by rw [World.frozen?_of_block (hgr5.block _ (by have := HZ.out; simp; omega) (fun h => hneT h.symm))]; exact blk_frozen (blk_alloc HTq.out _) 1))
                all_goals
                  go_wp2_with fail
                  go_meet
                  have hWa : Below wp.heap.size wp ((wp.alloc (.cells #[.int .i64 u.f0, .int .i64 tq, .int .i64 u.f1] 52)).drew) := by repeat (first | exact Below.refl _ _ | apply below_drew | apply pw_below_drewN | apply below_alloc)
                  exact ⟨gg, cap, app_mid (x := ⟨u.f0, tq, u.f1⟩) HBq.out HTq.out HXq.out HGq.out HMq.out hWa hown5 hgr5 (by omega)⟩
              case rest =>
              obtain ⟨gg, cap, hBq, hTq, hXq, hGq, hMq⟩ := hcut
              clear d1 d2 d3 f1 f3 x0 x1 x2 HTq HXq HGq HMq HBq
              go_wp2
              have d1 : wc.cell? ⟨w1.heap.size + 1, 1, none⟩ = some (.slice (some ⟨gg, 0, none⟩) ((gapsOf tk).length + 1) cap) := (blk_cell hTq 1).trans rfl
              have d2 : wc.cell? ⟨w1.heap.size + 1, 2, none⟩ = some (.map (some w1.heap.size)) := (blk_cell hTq 2).trans rfl
              have d3 : wc.cell? ⟨w1.heap.size + 1, 3, none⟩ = some (.int .i64 (endOf tk)) := (blk_cell hTq 3).trans rfl
              have f1 : wc.frozen? ⟨w1.heap.size + 1, 1, none⟩ = false := blk_frozen hTq 1
              have f3 : wc.frozen? ⟨w1.heap.size + 1, 3, none⟩ = false := blk_frozen hTq 3
              have x0 : wc.cell? ⟨wr.heap.size, 0, none⟩ = some (.int .i64 u.f0) := (blk_cell hXq 0).trans rfl
              have x1 : wc.cell? ⟨wr.heap.size, 1, none⟩ = some (.int .i64 u.f1) := (blk_cell hXq 1).trans rfl
              have x2 : wc.cell? ⟨wr.heap.size, 2, none⟩ = some (.int .i64 u.f2) := (blk_cell hXq 2).trans rfl
              have HTq := Aside0.mk hTq
              have HXq := Aside0.mk hXq
              have HGq := Aside0.mk hGq
              have HMq := Aside0.mk hMq
              have HBq := Aside0.mk hBq
              clear hTq hXq hGq hMq hBq
              obtain ⟨w3, hst, hM3, htu⟩ := (HMq.out.block (w' := wc.drew) rfl).store Try.underlying3 Try.underlying69 HNB.out HWF.out u.f2
              replace hst : (Instr.mapUpdate 69 (.map (some w1.heap.size)) (.int .i64 u.f0) (.int .i64 u.f2)).run Try.prog wc.drew = .ok () w3 := hst
              have hMne : ∀ {g : Nat} {cc : Array Value} {tt : TypeId}, wc.heap[g]? = some (.cells cc tt (0, 0)) → g ≠ w1.heap.size := fun h => HMq.out.ne h
              have hT3 := turned_keeps htu (show wc.drew.heap[w1.heap.size + 1]? = _ from HTq.out) (hMne HTq.out)
              have hX3 := turned_keeps htu (show wc.drew.heap[wr.heap.size]? = _ from HXq.out) (hMne HXq.out)
              have hG3 : w3.ownsRow w.heap.size 52 3 (.slice (some ⟨gg, 0, none⟩) ((gapsOf tk).length + 1) cap) ((gapsOf tk ++ [(⟨u.f0, tq, u.f1⟩ : S52)])).length (((gapsOf tk ++ [(⟨u.f0, tq, u.f1⟩ : S52)])).flatMap e52) := own_other (show wc.drew.ownsRow w.heap.size 52 3 (.slice (some ⟨gg, 0, none⟩) ((gapsOf tk).length + 1) cap) ((gapsOf tk ++ [(⟨u.f0, tq, u.f1⟩ : S52)])).length (((gapsOf tk ++ [(⟨u.f0, tq, u.f1⟩ : S52)])).flatMap e52) from HGq.out) htu.grown (by
                cases hob : Value.ownBlock (.slice (some ⟨gg, 0, none⟩) ((gapsOf tk).length + 1) cap) with
                | none => exact .inl rfl
                | some k =>
                  obtain ⟨cs, hcs⟩ := own_typed HGq.out k hob
                  exact .inr (fun e => hMne hcs (by injection e)))
              have hB3 : Below w.heap.size w w3 := (below_drew HBq.out).grown htu.grown HBq.out.size (fun k hk => by injection hk with hk; omega)
              have hM4 := IM_snoc hM3
              have y2 : w3.cell? ⟨w1.heap.size + 1, 2, none⟩ = some (.map (some w1.heap.size)) := (blk_cell hT3 2).trans rfl
              have z0 : w3.cell? ⟨wr.heap.size, 0, none⟩ = some (.int .i64 u.f0) := (blk_cell hX3 0).trans rfl
              have z2 : w3.cell? ⟨wr.heap.size, 2, none⟩ = some (.int .i64 u.f2) := (blk_cell hX3 2).trans rfl
              have HX3 := Aside0.mk hX3
              have HT3 := Aside0.mk hT3
              have HG3 := Aside0.mk hG3
              have HB3 := Aside0.mk hB3
              have HM4 := Aside0.mk hM4
              clear hT3 hX3 hG3 hB3 hM3 hM4 htu hMne
              go_region_held3 (fun w' => w'.cell? ⟨w1.heap.size + 1, 2, none⟩ = some (.map (some w1.heap.size)) ∧ w'.cell? ⟨wr.heap.size, 0, none⟩ = some (.int .i64 u.f0) ∧ w'.cell? ⟨wr.heap.size, 2, none⟩ = some (.int .i64 u.f2))
                (first | go_keep | (refine ⟨?_, ?_, ?_⟩ <;> first | assumption | go_simp)) (fail)
              go_wp2
              refine genW (Mid w (w1.heap.size + 1) w1.heap.size wr.heap.size (.slice (some ad) l.length c) (.slice (some ⟨gg, 0, none⟩) ((gapsOf tk).length + 1) cap) (gapsOf tk ++ [(⟨u.f0, tq, u.f1⟩ : S52)]) (endOf tk) (lastOf (tk ++ [u])) (cntOf (tk ++ [u])) (N + 1) u) ⟨HB3.out, HT3.out, HX3.out, HG3.out, HM4.out⟩ ?_
              clear y2 z0 z2 HX3 HT3 HG3 HB3 HM4 hst
              clear d1 d2 d3 f1 f3 x0 x1 x2 HTq HXq HGq HMq HBq
              rintro wt ⟨hBq, hTq, hXq, hGq, hMq⟩
              have d1 : wt.cell? ⟨w1.heap.size + 1, 1, none⟩ = some (.slice (some ⟨gg, 0, none⟩) ((gapsOf tk).length + 1) cap) := (blk_cell hTq 1).trans rfl
              have d2 : wt.cell? ⟨w1.heap.size + 1, 2, none⟩ = some (.map (some w1.heap.size)) := (blk_cell hTq 2).trans rfl
              have d3 : wt.cell? ⟨w1.heap.size + 1, 3, none⟩ = some (.int .i64 (endOf tk)) := (blk_cell hTq 3).trans rfl
              have f1 : wt.frozen? ⟨w1.heap.size + 1, 1, none⟩ = false := blk_frozen hTq 1
              have f3 : wt.frozen? ⟨w1.heap.size + 1, 3, none⟩ = false := blk_frozen hTq 3
              have x0 : wt.cell? ⟨wr.heap.size, 0, none⟩ = some (.int .i64 u.f0) := (blk_cell hXq 0).trans rfl
              have x1 : wt.cell? ⟨wr.heap.size, 1, none⟩ = some (.int .i64 u.f1) := (blk_cell hXq 1).trans rfl
              have x2 : wt.cell? ⟨wr.heap.size, 2, none⟩ = some (.int .i64 u.f2) := (blk_cell hXq 2).trans rfl
              have HTq := Aside0.mk hTq
              have HXq := Aside0.mk hXq
              have HGq := Aside0.mk hGq
              have HMq := Aside0.mk hMq
              have HBq := Aside0.mk hBq
              clear hTq hXq hGq hMq hBq
              have hmx : (if endOf tk < u.f2 then u.f2 else endOf tk) = mx (endOf tk) u.f2 := rfl
              go_region
              go_wp2
              go_roundw
              case rel =>
                have hT5 : ((wt.setCell ⟨w1.heap.size + 1, 3, none⟩ (.int .i64 (mx (endOf tk) u.f2))).drew).heap[w1.heap.size + 1]? = some (.cells #[.slice (some ad) l.length c, (.slice (some ⟨gg, 0, none⟩) ((gapsOf tk).length + 1) cap), .map (some w1.heap.size), .int .i64 (mx (endOf tk) u.f2)] 71 (0, 0)) := by
                  have := blk_set HTq.out 3 (.int .i64 (mx (endOf tk) u.f2))
                  exact this
                have hG5 := own_setCell HGq.out (p := ⟨w1.heap.size + 1, 3, none⟩) (own_ne HGq.out HTq.out (by decide)) (.int .i64 (mx (endOf tk) u.f2))
                have hM5 := HMq.out.block (w' := (wt.setCell ⟨w1.heap.size + 1, 3, none⟩ (.int .i64 (mx (endOf tk) u.f2))).drew) (Below.heap_setCell _ _ _ _ (fun e => by simp at e))
                have hB5 : Below w.heap.size w ((wt.setCell ⟨w1.heap.size + 1, 3, none⟩ (.int .i64 (mx (endOf tk) u.f2))).drew) := below_drew (HBq.out.setCell (by simp; omega) _)
                have hgg : (gapsOf tk ++ [(⟨u.f0, tq, u.f1⟩ : S52)]) = gapsOf (tk ++ [u]) := by
                  rw [gapsOf_snoc]
                  simp [gapOf, HLO.out]
                rw [hgg] at hG5
                have hat : okAt tk u = true := by rw [HN.out, HLO.out]; simp [hlt2]
                have hinv : ∀ i', l.take i' = tk ++ [u] → N + 1 = i' → OpenInv w (w1.heap.size + 1) w1.heap.size (.slice (some ad) l.length c) l i' ((wt.setCell ⟨w1.heap.size + 1, 3, none⟩ (.int .i64 (mx (endOf tk) u.f2))).drew) := fun i' h1 h2 => inv_step hB5 HOK.out hat hT5 hG5 hM5 h1 h2
                first
                  | exact ⟨j + 1 + 1, by omega, by go_num, ⟨hinv _ HTK.out (by have := HNN.out; omega)⟩⟩
                  | exact ⟨1, by omega, rfl, ⟨hinv _ HTK.out (by have := HNN.out; omega)⟩⟩
              case measure => simp [intOf]; omega
        · obtain rfl : i = l.length := by omega
          rw [List.take_length] at hok hT hg hM
          have c0 : wr.cell? ⟨w1.heap.size + 1, 1, none⟩ = some gv := (blk_cell hT 1).trans rfl
          have hs := sortGap_own w.heap.size gv (gapsOf l) wr hg (by have := gapsOf_len l; omega)
          have HT := Aside0.mk hT
          have HG := Aside0.mk hg
          have HM := Aside0.mk hM
          have HOK := Aside0.mk hok
          have HBB := Aside0.mk hB
          clear hT hg hM hok hB HI
          go_wp2_with (go_at_call 64; refine hs.mono ?_; rintro e w2 ⟨rfl, gs, hp, hso, hown, hgr⟩)
          go_ret2
          have hne : gv.ownBlock ≠ some (w1.heap.size + 1) := fun h => own_ne HG.out HT.out (by decide) h.symm
          have hM2 : gv.ownBlock ≠ some w1.heap.size := by
            intro h
            obtain ⟨cs, hcs⟩ := own_typed HG.out _ h
            exact HM.out.ne hcs rfl
          have hk : chk l = 0 := by simp [chk, h200, HA.out, HOK.out]
          refine ⟨HBB.out.grown hgr HBB.out.size (own_base HG.out), .inr ⟨hk, w1.heap.size + 1, gs, rfl, hp, hso, gv, w1.heap.size, by omega, ?_, hown, hsz, ?_⟩⟩
          · exact blk_grown HT.out hgr (fun h => hne h.symm)
          · obtain ⟨n, D, h1, h2, h3⟩ := HM.out.kept hgr (fun h => hM2 h.symm)
            exact ⟨n, D, h1, by omega, h3⟩
end Go.Proofs.Ytdkfmbammdmohaa.PPolicyCosts

/- What package policy keeps of a trace, in plain words: the last tick of each page, the gaps, the end, what is wrong. -/
import Derived.Test.YtdkfmbammdmohaaA2
import Derived.Test.YtdkfmbammdmohaaM1
namespace Go.Proofs.Ytdkfmbammdmohaa.PPolicyCosts
open Go.RowKit Go.Proofs.YtdkfmbammdmohaaW.PrintWords Go.Proofs.YtdkfmbammdmohaaW.PrintLast Go.Proofs.YtdkfmbammdmohaaW.PrintMore
open Go.Proofs.YtdkfmbammdmohaaM
set_option linter.unusedVariables false

/-- the To of the last use of a page -/
def lastOf (l : List S73) (p : Int) : Option Int := l.foldl (fun a u => if u.f0 = p then some u.f2 else a) none
theorem lastOf_nil (p : Int) : lastOf [] p = none := rfl
theorem lastOf_snoc (l : List S73) (u : S73) (p : Int) : lastOf (l ++ [u]) p = if u.f0 = p then some u.f2 else lastOf l p := by
  simp [lastOf, List.foldl_append]
/-- the gap that a use ends -/
def gapOf (l : List S73) (u : S73) : List S52 := match lastOf l u.f0 with | some t => [⟨u.f0, t, u.f1⟩] | none => []
def gapsU : List S73 → List S73 → List S52
  | _, [] => []
  | pre, u :: r => gapOf pre u ++ gapsU (pre ++ [u]) r
theorem gapsU_snoc (r : List S73) : ∀ (pre : List S73) (u : S73), gapsU pre (r ++ [u]) = gapsU pre r ++ gapOf (pre ++ r) u := by
  induction r with
  | nil => intro pre u; simp [gapsU]
  | cons x r ih => intro pre u; simp [gapsU, ih]
/-- the gaps of a trace, in the order of their ends -/
def gapsOf (l : List S73) : List S52 := gapsU [] l
theorem gapsOf_snoc (l : List S73) (u : S73) : gapsOf (l ++ [u]) = gapsOf l ++ gapOf l u := by
  unfold gapsOf; rw [gapsU_snoc]; simp
theorem gapOf_len (l : List S73) (u : S73) : (gapOf l u).length ≤ 1 := by unfold gapOf; split <;> simp
theorem gapsU_len (r : List S73) : ∀ pre : List S73, (gapsU pre r).length ≤ r.length := by
  induction r with
  | nil => intro pre; simp [gapsU]
  | cons x r ih => intro pre; have := ih (pre ++ [x]); have := gapOf_len pre x; simp [gapsU]; omega
theorem gapsOf_len (l : List S73) : (gapsOf l).length ≤ l.length := gapsU_len l []
/-- the end of a trace -/
def endOf (l : List S73) : Int := l.foldl (fun a u => mx a u.f2) 0
theorem endOf_snoc (l : List S73) (u : S73) : endOf (l ++ [u]) = mx (endOf l) u.f2 := by simp [endOf, List.foldl_append]
/-- how many pages -/
def pagesOf : List S73 → List S73 → Nat
  | _, [] => 0
  | pre, u :: r => (if (lastOf pre u.f0).isSome then 0 else 1) + pagesOf (pre ++ [u]) r
theorem pagesOf_snoc (r : List S73) : ∀ (pre : List S73) (u : S73), pagesOf pre (r ++ [u]) = pagesOf pre r + (if (lastOf (pre ++ r) u.f0).isSome then 0 else 1) := by
  induction r with
  | nil => intro pre u; simp [pagesOf]
  | cons x r ih => intro pre u; simp [pagesOf, ih]; omega
def cntOf (l : List S73) : Nat := pagesOf [] l
theorem cntOf_snoc (l : List S73) (u : S73) : cntOf (l ++ [u]) = cntOf l + (if (lastOf l u.f0).isSome then 0 else 1) := by
  unfold cntOf; rw [pagesOf_snoc]; simp

/-- may a use stand behind another one? -/
def after (a u : S73) : Bool := decide (a.f1 < u.f1) || (decide (a.f1 = u.f1) && decide (a.f0 < u.f0))
/-- may a use stand behind a list? -/
def okAt (l : List S73) (u : S73) : Bool := (match l.getLast? with | some a => after a u | none => true) && (match lastOf l u.f0 with | some t => decide (t < u.f1) | none => true)
def okU : List S73 → List S73 → Bool
  | _, [] => true
  | pre, u :: r => okAt pre u && okU (pre ++ [u]) r
theorem okU_snoc (r : List S73) : ∀ (pre : List S73) (u : S73), okU pre (r ++ [u]) = (okU pre r && okAt (pre ++ r) u) := by
  induction r with
  | nil => intro pre u; simp [okU]
  | cons x r ih => intro pre u; simp [okU, ih, Bool.and_assoc]
theorem okU_append (r : List S73) : ∀ (pre s : List S73), okU pre (r ++ s) = (okU pre r && okU (pre ++ r) s) := by
  induction r with
  | nil => intro pre s; simp [okU]
  | cons x r ih => intro pre s; simp [okU, ih, Bool.and_assoc]
def okTrace (l : List S73) : Bool := okU [] l
theorem okTrace_snoc (l : List S73) (u : S73) : okTrace (l ++ [u]) = (okTrace l && okAt l u) := by
  unfold okTrace; rw [okU_snoc]; simp
theorem okTrace_append (l r : List S73) : okTrace (l ++ r) = (okTrace l && okU l r) := by
  unfold okTrace; rw [okU_append]; simp

/-- the error of a trace -/
def chk (l : List S73) : Int := if l.length > 200 then 3 else if l.any wrongU = true then 7 else if okTrace l = true then 0 else 6

theorem take_snoc' {α : Type} (l : List α) (k : Nat) (h : k < l.length) : l.take (k + 1) = l.take k ++ [l[k]] := by
  rw [List.take_succ_eq_append_getElem h]

/-- the order of a use and the next one, as the code asks it -/
theorem after_or (a u : S73) : decide (0 ≤ orI (cmpI a.f1 u.f1) (cmpI a.f0 u.f0)) = !after a u := by
  unfold after orI cmpI
  by_cases h1 : a.f1 < u.f1
  · simp [h1]
  · by_cases h2 : u.f1 < a.f1
    · have : ¬ a.f1 = u.f1 := by omega
      simp [h1, h2, this]
    · have h3 : a.f1 = u.f1 := by omega
      by_cases h4 : a.f0 < u.f0
      · simp [h3, h4]
      · by_cases h5 : u.f0 < a.f0
        · simp [h3, h4, h5]
        · simp [h3, h4, h5]

/-- A trace as it lies in memory: the uses, the gaps, the last tick of each page, the end. -/
def TraceAt (w : World) (base T : Nat) (lv : Value) (gs : List S52) (f : Int → Option Int) (cnt : Nat) (e : Int) : Prop :=
  ∃ gv M, base ≤ T ∧ w.heap[T]? = some (.cells #[lv, gv, .map (some M), .int .i64 e] 71 (0, 0)) ∧ w.ownsRow base 52 3 gv gs.length (gs.flatMap e52) ∧ base ≤ M ∧ IM Try.prog 3 elInt w M f cnt 1000

theorem TraceAt.below {w w' : World} {base T : Nat} {lv : Value} {gs : List S52} {f : Int → Option Int} {cnt : Nat} {e : Int} (h : TraceAt w base T lv gs f cnt e) (hb : Below w.heap.size w w') : TraceAt w' base T lv gs f cnt e := by
  obtain ⟨gv, M, h1, h2, h3, h4, h5⟩ := h
  exact ⟨gv, M, h1, blk_below h2 hb, pw_own_below h3 hb, h4, h5.block (hb.block M h5.lt)⟩

def lex52 (x y : S52) : Prop := x.f1 < y.f1 ∨ (x.f1 = y.f1 ∧ x.f0 < y.f0)

/-- What open comes to. -/
def OpenPost (lv : Value) (l : List S73) (w : World) (e : Ending) (w' : World) : Prop :=
  Below w.heap.size w w' ∧ ((chk l ≠ 0 ∧ e = .returned (.tuple #[.pointer none, .int .i64 (chk l)])) ∨
    (chk l = 0 ∧ ∃ T gs, e = .returned (.tuple #[.pointer (some ⟨T, 0, none⟩), .int .i64 0]) ∧ gs.Perm (gapsOf l) ∧ gs.Pairwise (fun x y => decide (cmpGap y x < 0) = false) ∧ TraceAt w' w.heap.size T lv gs (lastOf l) (cntOf l) (endOf l)))
end Go.Proofs.Ytdkfmbammdmohaa.PPolicyCosts

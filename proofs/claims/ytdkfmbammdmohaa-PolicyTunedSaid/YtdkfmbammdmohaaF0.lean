/- The steps of a trace, their order, and what the queue of pages that wait comes to, in plain words. -/
import Derived.Test.YtdkfmbammdmohaaE1
namespace Go.Proofs.Ytdkfmbammdmohaa.PPolicyCosts
open Go.RowKit Go.Proofs.YtdkfmbammdmohaaW.PrintWords Go.Proofs.YtdkfmbammdmohaaW.PrintLast Go.Proofs.YtdkfmbammdmohaaW.PrintMore
open Go.Proofs.YtdkfmbammdmohaaM Go.Proofs.YtdkfmbammdmohaaS
set_option linter.unusedVariables false
set_option linter.unusedSimpArgs false

def z90 : S90 := ⟨0, false, 0⟩
def k90 : Kd S90 := Kd.iso (Kd.pair (Kd.int .i64) (Kd.pair Kd.bool (Kd.int .i64))) (fun x : S90 => (x.f0, x.f1, x.f2))
theorem k90_open {w : World} {x : S90} {cs : List Value} (h : k90.K w x cs) : cs = [.int .i64 x.f0, .bool x.f1, .int .i64 x.f2] := by
  obtain ⟨_, _, rfl, rfl, ⟨_, _, rfl, rfl, rfl⟩⟩ := h
  exact rfl
theorem k90_mk (w : World) (x : S90) : k90.K w x [.int .i64 x.f0, .bool x.f1, .int .i64 x.f2] := ⟨[.int .i64 x.f0], [.bool x.f1, .int .i64 x.f2], rfl, rfl, ⟨[.bool x.f1], [.int .i64 x.f2], rfl, rfl, rfl⟩⟩
def rd_T90 (xs : List S90) (i : Int) : S90 := xs.getD i.toNat z90
theorem at_T90 {w : World} {A : Option Addr} {n : Nat} {xs : List S90} (h : Kd.C k90 w A n xs) (i : Int) (h0 : 0 ≤ i) (h1 : i < n) : ∃ ad, A = some ad ∧ w.cell? (ad.add (i.toNat * 3)) = some (.int .i64 (rd_T90 xs i).f0) ∧ w.cell? ⟨(ad.add (i.toNat * 3)).block, (ad.add (i.toNat * 3)).off + 1, none⟩ = some (.bool (rd_T90 xs i).f1) ∧ w.cell? ⟨(ad.add (i.toNat * 3)).block, (ad.add (i.toNat * 3)).off + 2, none⟩ = some (.int .i64 (rd_T90 xs i).f2) := by
  obtain ⟨ad, c, e, _, hK, hc0⟩ := Kd.C_get h z90 i h0 h1
  have hc : ∀ j u, c[j]? = some u → w.cell? (ad.add (i.toNat * 3 + j)) = some u := hc0
  obtain rfl := k90_open hK
  exact ⟨ad, e, hc 0 _ rfl, by rw [← add_field _ _ 1 (by omega)]; exact hc 1 _ rfl, by rw [← add_field _ _ 2 (by omega)]; exact hc 2 _ rfl⟩
def z98 : S98 := ⟨0, 0⟩
def k98 : Kd S98 := Kd.iso (Kd.pair (Kd.int .i64) (Kd.int .i64)) (fun x : S98 => (x.f0, x.f1))
theorem k98_open {w : World} {x : S98} {cs : List Value} (h : k98.K w x cs) : cs = [.int .i64 x.f0, .int .i64 x.f1] := by
  obtain ⟨_, _, rfl, rfl, rfl⟩ := h
  exact rfl
theorem k98_mk (w : World) (x : S98) : k98.K w x [.int .i64 x.f0, .int .i64 x.f1] := ⟨[.int .i64 x.f0], [.int .i64 x.f1], rfl, rfl, rfl⟩
def rd_T98 (xs : List S98) (i : Int) : S98 := xs.getD i.toNat z98
theorem at_T98 {w : World} {A : Option Addr} {n : Nat} {xs : List S98} (h : Kd.C k98 w A n xs) (i : Int) (h0 : 0 ≤ i) (h1 : i < n) : ∃ ad, A = some ad ∧ w.cell? (ad.add (i.toNat * 2)) = some (.int .i64 (rd_T98 xs i).f0) ∧ w.cell? ⟨(ad.add (i.toNat * 2)).block, (ad.add (i.toNat * 2)).off + 1, none⟩ = some (.int .i64 (rd_T98 xs i).f1) := by
  obtain ⟨ad, c, e, _, hK, hc0⟩ := Kd.C_get h z98 i h0 h1
  have hc : ∀ j u, c[j]? = some u → w.cell? (ad.add (i.toNat * 2 + j)) = some u := hc0
  obtain rfl := k98_open hK
  exact ⟨ad, e, hc 0 _ rfl, by rw [← add_field _ _ 1 (by omega)]; exact hc 1 _ rfl⟩

theorem reps_flatF {α : Type} {R : α → List Value → Prop} {k : Nat} (enc : α → List Value) (hR : ∀ x, R x (enc x)) (hk : ∀ x, (enc x).length = k) : ∀ (l pre : List α), Reps R k pre (pre.flatMap enc) → Reps R k (pre ++ l) ((pre ++ l).flatMap enc)
  | [], pre, h => by simpa using h
  | x :: l, pre, h => by
    have h2 := Reps.snoc h (hR x) (hk x)
    have h3 := reps_flatF enc hR hk l (pre ++ [x]) (by simpa using h2)
    simpa using h3
theorem own_C90 {w : World} {base : Nat} {v : Value} {ss : List S90} (h : w.ownsRow base 90 3 v ss.length (ss.flatMap e90)) : ∃ A c, v = .slice A ss.length c ∧ ss.length ≤ c ∧ Kd.C k90 w A ss.length ss := by
  have hr : Reps (k90.K w) 3 ss (ss.flatMap e90) := by
    have := reps_flatF (R := k90.K w) (k := 3) e90 (fun x => k90_mk w x) (fun _ => rfl) ss [] (Reps.none _ _)
    simpa using this
  obtain ⟨A, c, rfl, hrow⟩ := own_reads_row h hr rfl
  exact ⟨A, c, rfl, own_le h, hrow⟩
/-- The queue, read. -/
theorem qu_C98 {w : World} {base : Nat} {A : Option Addr} {n c : Nat} {q : List S98} (h : Qu w base (.slice A n c) q) : n = q.length ∧ n ≤ c ∧ Kd.C k98 w A q.length q := by
  obtain ⟨A', c', he, hl⟩ := q_slice h
  injection he with h1 h2 h3
  subst h1; subst h2; subst h3
  have hr : Reps (k98.K w) 2 q (q.flatMap e98) := by
    have := reps_flatF (R := k98.K w) (k := 2) e98 (fun x => k98_mk w x) (fun _ => rfl) q [] (Reps.none _ _)
    simpa using this
  refine ⟨rfl, hl, rfl, q_max h, fun hp => ?_⟩
  obtain ⟨ad, ha, hc⟩ := q_cells h hp
  refine ⟨ad, ha, fun j p hj => ⟨((q.flatMap e98).drop (j * 2)).take 2, ?_, hr.2 j p hj, fun i u hu => ?_⟩⟩
  · have hjl : j < q.length := (List.getElem?_eq_some_iff.1 hj).1
    have := hr.1
    show List.length _ = 2
    rw [List.length_take, List.length_drop, this]
    omega
  · have hi : i < 2 := by
      have := (List.getElem?_eq_some_iff.1 hu).1
      rw [List.length_take] at this
      omega
    rw [List.getElem?_take_of_lt hi, List.getElem?_drop] at hu
    exact hc _ u hu

/-- The steps of a trace. -/
def stepsOf (l : List S73) : List S90 := l.flatMap fun u => [⟨u.f1, true, u.f0⟩, ⟨u.f2, false, u.f0⟩]
theorem stepsOf_snoc (l : List S73) (u : S73) : stepsOf (l ++ [u]) = stepsOf l ++ [⟨u.f1, true, u.f0⟩, ⟨u.f2, false, u.f0⟩] := by simp [stepsOf]
theorem stepsOf_len (l : List S73) : (stepsOf l).length = l.length * 2 := by
  unfold stepsOf
  exact YtdkfmbammdmohaaS.flatMap_len (α := S73) (fun u => ([] : List Value)) 0 (fun _ => rfl) [] |> fun _ => by
    induction l with
    | nil => rfl
    | cons x l ih => simp [List.flatMap_cons, ih, Nat.add_mul]

theorem lt_cmpStep (x y : S90) : ltOf cmpStep x y = (decide (x.f0 < y.f0) || (decide (x.f0 = y.f0) && ((x.f1 && !y.f1) || (decide (x.f1 = y.f1) && decide (x.f2 < y.f2))))) := by
  unfold ltOf cmpStep cmpI
  by_cases h1 : x.f0 < y.f0
  · simp [h1]
  · by_cases h2 : y.f0 < x.f0
    · have : ¬ x.f0 = y.f0 := by omega
      simp [h1, h2, this]
    · have h3 : x.f0 = y.f0 := by omega
      cases hx : x.f1 <;> cases hy : y.f1 <;> simp [h3]
      all_goals
        by_cases h4 : x.f2 < y.f2
        · simp [h4]
        · by_cases h5 : y.f2 < x.f2
          · simp [h4, h5]
          · simp [h4, h5]

theorem swoStep : Sort.SWO (ltOf cmpStep) where
  irrefl x := by rw [lt_cmpStep]; cases x.f1 <;> simp
  trans x y z h1 h2 := by
    rw [lt_cmpStep] at *
    cases hx : x.f1 <;> cases hy : y.f1 <;> cases hz : z.f1 <;> simp [hx, hy, hz] at * <;> omega
  ntrans x y z h1 h2 := by
    rw [lt_cmpStep] at *
    cases hx : x.f1 <;> cases hy : y.f1 <;> cases hz : z.f1 <;> simp [hx, hy, hz] at * <;> omega

theorem sortStep_own (base : Nat) (v : Value) (d : List S90) (w : World) (ho : w.ownsRow base 90 3 v d.length (d.flatMap e90)) (hsz : d.length < 4611686018427387904) :
    Calls Try.prog 44 #[v, .func (.func 45) #[] #[]] w fun en w' => en = .returned (.tuple #[]) ∧ ∃ d' : List S90, d'.Perm d ∧ d'.Pairwise (fun x y => ltOf cmpStep y x = false) ∧ w'.ownsRow base 90 3 v d'.length (d'.flatMap e90) ∧ w.grownBy w' v.ownBlock := by
  have eg : ∀ args w, (callFunc 45 args).run Try.prog w = .ok (.enter 45 args) w := enters_of Try.func45 (by kernel_rfl) rfl
  exact sortFunc_own Try.sortStep 3 90 Try.isAgg90 Try.sizeOf90 e90 (fun _ => rfl) (fun x v hv => by simp [e90] at hv; rcases hv with rfl | rfl | rfl <;> rfl) cmpStep swoStep 45 eg (fun x y W => cmpStep_any x y W) base v d w ho hsz

/-- Pages are given back from the front of the queue, as long as there are too many. -/
def evict (hold a limit : Int) : Int → List S98 → Int × List S98
  | n, [] => (n, [])
  | n, x :: q => if limit < ((x :: q).length : Int) then evict hold a limit (wrap64 (n + wrap64 (wrap64 (a - x.f0) * hold))) q else (n, x :: q)
/-- One step. -/
def stepQ (hold win limit : Int) (lastT : Bool) (s : S90) (st : Int × List S98) : Int × List S98 :=
  if s.f1 = true then
    (if idxW st.2 s.f2 < 0 then (wrap64 (st.1 + win), st.2) else (wrap64 (st.1 + wrap64 (wrap64 (s.f0 - (rd_T98 st.2 (idxW st.2 s.f2)).f0) * hold)), st.2.eraseIdx (idxW st.2 s.f2).toNat))
  else if lastT = true then evict hold s.f0 limit st.1 (st.2 ++ [⟨s.f0, s.f2⟩]) else (st.1, st.2 ++ [⟨s.f0, s.f2⟩])
/-- Is a step the last one of its tick? -/
def lastAt (ss : List S90) (i : Nat) : Bool := decide (i + 1 = ss.length) || decide ((rd_T90 ss ((i : Int) + 1)).f0 > (rd_T90 ss (i : Int)).f0)
/-- The cost so far, and the queue, behind i steps. -/
def runQ (hold win limit : Int) (ss : List S90) : Nat → Int × List S98
  | 0 => (0, [])
  | i + 1 => stepQ hold win limit (lastAt ss i) (rd_T90 ss (i : Int)) (runQ hold win limit ss i)
/-- What is held in the end. -/
def tailQ (hold e : Int) (n : Int) (q : List S98) : Int := q.foldl (fun n x => wrap64 (n + wrap64 (wrap64 (e - x.f0) * hold))) n
theorem tailQ_snoc (hold e n : Int) (q : List S98) (x : S98) : tailQ hold e n (q ++ [x]) = wrap64 (tailQ hold e n q + wrap64 (wrap64 (e - x.f0) * hold)) := by simp [tailQ, List.foldl_append]
def mostQ (hold win limit e : Int) (ss : List S90) : Int := tailQ hold e (runQ hold win limit ss ss.length).1 (runQ hold win limit ss ss.length).2
end Go.Proofs.Ytdkfmbammdmohaa.PPolicyCosts

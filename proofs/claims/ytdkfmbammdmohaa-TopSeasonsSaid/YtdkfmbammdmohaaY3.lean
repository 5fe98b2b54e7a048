/- The walk of live31. -/
import Derived.Test.YtdkfmbammdmohaaY2
namespace Go.Proofs.Ytdkfmbammdmohaa.PPolicyCosts
open Go.RowKit Go.Proofs.YtdkfmbammdmohaaW.PrintWords Go.Proofs.YtdkfmbammdmohaaW.PrintLast Go.Proofs.YtdkfmbammdmohaaW.PrintMore
open Go.Proofs.YtdkfmbammdmohaaM Go.Proofs.YtdkfmbammdmohaaS
attribute [local go_sem] max2_int min2_int max_two min_two max_three min_three max_four min_four
set_option linter.unusedVariables false
set_option linter.unusedSimpArgs false

/-- what is used, what is held, since when, what it has cost -/
structure LvS where
  used : Int → Bool
  held : Int → Bool
  since : Int → Int
  cost : Int
def updF {β : Type} (f : Int → β) (p : Int) (v : β) : Int → β := fun q => if q = p then v else f q
def lvBegin (win : Int) (s : LvS) (p : Int) : LvS := ⟨updF s.used p true, updF s.held p true, s.since, if s.held p = true then s.cost else wrap64 (s.cost + win)⟩
def lvEnd (t : Int) (s : LvS) (p : Int) : LvS := ⟨updF s.used p false, s.held, updF s.since p t, s.cost⟩
def lvDrop (s : LvS) (p : Int) : LvS := ⟨s.used, updF s.held p false, s.since, s.cost⟩
def beginN (l : List S73) (win t : Int) (s : LvS) : Nat → LvS
  | 0 => s
  | i + 1 => if (rd_T73 l (i : Int)).f1 = t then lvBegin win (beginN l win t s i) (rd_T73 l (i : Int)).f0 else beginN l win t s i
def endN (l : List S73) (t : Int) (s : LvS) : Nat → LvS
  | 0 => s
  | i + 1 => if (rd_T73 l (i : Int)).f2 = t then lvEnd t (endN l t s i) (rd_T73 l (i : Int)).f0 else endN l t s i
def idleB (s : LvS) (p : Int) : Bool := s.held p && !s.used p
def idleN (s : LvS) : Nat → Nat
  | 0 => 0
  | k + 1 => if idleB s (k : Int) = true then idleN s k + 1 else idleN s k
def goesB (kind age t : Int) (s : LvS) (p : Int) : Bool := idleB s p && (kind == 2 || (kind == 3 && decide (age ≤ wrap64 (t - s.since p))))
def dropN (kind age t : Int) (s : LvS) : Nat → LvS
  | 0 => s
  | k + 1 => if goesB kind age t (dropN kind age t s k) (k : Int) = true then lvDrop (dropN kind age t s k) (k : Int) else dropN kind age t s k
def firstN (s : LvS) : Nat → Int
  | 0 => -1
  | k + 1 => if idleB s (k : Int) = true ∧ (firstN s k < 0 ∨ s.since (k : Int) < s.since (firstN s k)) then (k : Int) else firstN s k
def evS (kind most : Int) : Nat → LvS → LvS
  | 0, s => s
  | f + 1, s => if kind = 4 ∧ most < (idleN s 3 : Int) then evS kind most f (lvDrop s (firstN s 3)) else s
def payN (hold : Int) (s : LvS) : Nat → Int
  | 0 => s.cost
  | k + 1 => if idleB s (k : Int) = true then wrap64 (payN hold s k + hold) else payN hold s k
def endsS (l : List S73) (win t : Int) (s : LvS) : LvS := endN l t (beginN l win t s l.length) l.length
def keptS (l : List S73) (win kind age most t : Int) (s : LvS) : LvS := evS kind most 3 (dropN kind age t (endsS l win t s) 3)
/-- what a tick makes of it -/
def tickS (l : List S73) (hold win kind age most t : Int) (s : LvS) : LvS :=
  ⟨(keptS l win kind age most t s).used, (keptS l win kind age most t s).held, (keptS l win kind age most t s).since, payN hold (keptS l win kind age most t s) 3⟩
def liveR (l : List S73) (hold win kind age most : Int) : Nat → LvS
  | 0 => ⟨fun _ => false, fun _ => false, fun _ => 0, 0⟩
  | n + 1 => tickS l hold win kind age most (n : Int) (liveR l hold win kind age most n)
theorem idleN_le (s : LvS) : ∀ k, idleN s k ≤ k
  | 0 => Nat.le_refl _
  | k + 1 => by have := idleN_le s k; rw [idleN]; split <;> omega
theorem drop_four (age t : Int) (s : LvS) : ∀ k, dropN 4 age t s k = s
  | 0 => rfl
  | k + 1 => by
    rw [dropN, drop_four age t s k]
    have : goesB 4 age t s (k : Int) = false := by unfold goesB; simp
    rw [this]
    rfl
theorem evS_other (kind most : Int) (h : kind ≠ 4) : ∀ f s, evS kind most f s = s
  | 0, s => rfl
  | f + 1, s => by rw [evS, if_neg (fun h2 => h h2.1)]
theorem firstN_bd (s : LvS) : ∀ k, -1 ≤ firstN s k ∧ firstN s k < k ∧ (0 < idleN s k → 0 ≤ firstN s k) ∧ (0 ≤ firstN s k → idleB s (firstN s k) = true)
  | 0 => by simp [firstN, idleN]
  | k + 1 => by
    obtain ⟨h1, h2, h3, h4⟩ := firstN_bd s k
    rw [firstN, idleN]
    by_cases hi : idleB s (k : Int) = true
    · by_cases hc : firstN s k < 0 ∨ s.since (k : Int) < s.since (firstN s k)
      · rw [if_pos ⟨hi, hc⟩, if_pos hi]
        exact ⟨by omega, by omega, fun _ => by omega, fun _ => hi⟩
      · rw [if_neg (fun h => hc h.2), if_pos hi]
        exact ⟨h1, by omega, fun _ => by omega, h4⟩
    · rw [if_neg (fun h => hi h.1), if_neg hi]
      exact ⟨h1, by omega, h3, h4⟩
theorem idle_drop (s : LvS) (p : Int) (q : Int) : idleB (lvDrop s p) q = if q = p then false else idleB s q := by
  unfold idleB lvDrop updF
  by_cases h : q = p <;> simp [h]
theorem idleN_drop (s : LvS) (p : Nat) (h : idleB s (p : Int) = true) : ∀ k, idleN (lvDrop s (p : Int)) k + (if p < k then 1 else 0) = idleN s k
  | 0 => by simp [idleN]
  | k + 1 => by
    have ih := idleN_drop s p h k
    rw [idleN, idleN, idle_drop]
    by_cases hkp : k = p
    · subst hkp
      rw [if_neg (by omega)] at ih
      rw [if_pos rfl, if_neg (by decide), if_pos h, if_pos (by omega)]
      omega
    · rw [if_neg (show ¬ (k : Int) = (p : Int) by omega)]
      by_cases hlt : p < k
      · rw [if_pos hlt] at ih
        rw [if_pos (show p < k + 1 by omega)]
        split <;> omega
      · rw [if_neg hlt] at ih
        rw [if_neg (show ¬ p < k + 1 by omega)]
        split <;> omega

def ar3B (f : Int → Bool) : Obj := .cells #[.bool (f 0), .bool (f 1), .bool (f 2)] 113 (0, 0)
def ar3I (f : Int → Int) : Obj := .cells #[.int .i64 (f 0), .int .i64 (f 1), .int .i64 (f 2)] 112 (0, 0)
theorem ar3B_set {w : World} {B : Nat} {f : Int → Bool} (h : w.heap[B]? = some (ar3B f)) (p : Nat) (hp : p < 3) (v : Bool) : (w.setCell ⟨B, p, none⟩ (.bool v)).heap[B]? = some (ar3B (updF f (p : Int) v)) := by
  have := blk_set h p (.bool v)
  match p, hp with
  | 0, _ => exact this
  | 1, _ => exact this
  | 2, _ => exact this
theorem ar3I_set {w : World} {B : Nat} {f : Int → Int} (h : w.heap[B]? = some (ar3I f)) (p : Nat) (hp : p < 3) (v : Int) : (w.setCell ⟨B, p, none⟩ (.int .i64 v)).heap[B]? = some (ar3I (updF f (p : Int) v)) := by
  have := blk_set h p (.int .i64 v)
  match p, hp with
  | 0, _ => exact this
  | 1, _ => exact this
  | 2, _ => exact this
theorem ar3B_cell {w : World} {B : Nat} {f : Int → Bool} (h : w.heap[B]? = some (ar3B f)) (p : Nat) (hp : p < 3) : w.cell? ⟨B, p, none⟩ = some (.bool (f (p : Int))) := by
  rw [blk_cell h p]
  match p, hp with
  | 0, _ => rfl
  | 1, _ => rfl
  | 2, _ => rfl
theorem ar3I_cell {w : World} {B : Nat} {f : Int → Int} (h : w.heap[B]? = some (ar3I f)) (p : Nat) (hp : p < 3) : w.cell? ⟨B, p, none⟩ = some (.int .i64 (f (p : Int))) := by
  rw [blk_cell h p]
  match p, hp with
  | 0, _ => rfl
  | 1, _ => rfl
  | 2, _ => rfl
/-- What lies in memory beside the trace. -/
structure LvI (hold win kind age most : Int) (bc bp bu bh bs : Nat) (w : World) (s : LvS) (wr : World) : Prop where
  bel : Below w.heap.size w wr
  o : w.heap.size ≤ bc ∧ bc < bp ∧ bp < bu ∧ bu < bh ∧ bh < bs
  c : wr.heap[bc]? = some (.cells #[.int .i64 hold, .int .i64 win] 24 (0, 0))
  p : wr.heap[bp]? = some (.cells #[.int .i64 kind, .int .i64 age, .int .i64 most] 26 (0, 0))
  u : wr.heap[bu]? = some (ar3B s.used)
  h : wr.heap[bh]? = some (ar3B s.held)
  s : wr.heap[bs]? = some (ar3I s.since)
section
variable {hold win kind age most : Int} {bc bp bu bh bs : Nat} {w wr : World} {s : LvS}
theorem LvI.step {wq : World} (h : LvI hold win kind age most bc bp bu bh bs w s wr) (hb : Below wr.heap.size wr wq) : LvI hold win kind age most bc bp bu bh bs w s wq :=
  ⟨below_step h.bel hb, h.o, blk_below h.c hb, blk_below h.p hb, blk_below h.u hb, blk_below h.h hb, blk_below h.s hb⟩
theorem LvI.setU (h : LvI hold win kind age most bc bp bu bh bs w s wr) (p : Nat) (hp : p < 3) (v : Bool) : LvI hold win kind age most bc bp bu bh bs w ⟨updF s.used (p : Int) v, s.held, s.since, s.cost⟩ (wr.setCell ⟨bu, p, none⟩ (.bool v)) := by
  have ho := h.o
  exact ⟨h.bel.setCell (by show w.heap.size ≤ bu; omega) _, h.o, blk_far h.c (by show bc ≠ bu; omega) _, blk_far h.p (by show bp ≠ bu; omega) _, ar3B_set h.u p hp v, blk_far h.h (by show bh ≠ bu; omega) _, blk_far h.s (by show bs ≠ bu; omega) _⟩
theorem LvI.setH (h : LvI hold win kind age most bc bp bu bh bs w s wr) (p : Nat) (hp : p < 3) (v : Bool) : LvI hold win kind age most bc bp bu bh bs w ⟨s.used, updF s.held (p : Int) v, s.since, s.cost⟩ (wr.setCell ⟨bh, p, none⟩ (.bool v)) := by
  have ho := h.o
  exact ⟨h.bel.setCell (by show w.heap.size ≤ bh; omega) _, h.o, blk_far h.c (by show bc ≠ bh; omega) _, blk_far h.p (by show bp ≠ bh; omega) _, blk_far h.u (by show bu ≠ bh; omega) _, ar3B_set h.h p hp v, blk_far h.s (by show bs ≠ bh; omega) _⟩
theorem LvI.setS (h : LvI hold win kind age most bc bp bu bh bs w s wr) (p : Nat) (hp : p < 3) (v : Int) : LvI hold win kind age most bc bp bu bh bs w ⟨s.used, s.held, updF s.since (p : Int) v, s.cost⟩ (wr.setCell ⟨bs, p, none⟩ (.int .i64 v)) := by
  have ho := h.o
  exact ⟨h.bel.setCell (by show w.heap.size ≤ bs; omega) _, h.o, blk_far h.c (by show bc ≠ bs; omega) _, blk_far h.p (by show bp ≠ bs; omega) _, blk_far h.u (by show bu ≠ bs; omega) _, blk_far h.h (by show bh ≠ bs; omega) _, ar3I_set h.s p hp v⟩
theorem LvI.cost (h : LvI hold win kind age most bc bp bu bh bs w s wr) {s' : LvS} (h1 : s'.used = s.used) (h2 : s'.held = s.held) (h3 : s'.since = s.since) : LvI hold win kind age most bc bp bu bh bs w s' wr := ⟨h.bel, h.o, h.c, h.p, by rw [h1]; exact h.u, by rw [h2]; exact h.h, by rw [h3]; exact h.s⟩
theorem LvI.hc (h : LvI hold win kind age most bc bp bu bh bs w s wr) : wr.cell? ⟨bc, 0, none⟩ = some (.int .i64 hold) ∧ wr.cell? ⟨bc, 1, none⟩ = some (.int .i64 win) := ⟨(blk_cell h.c 0).trans rfl, (blk_cell h.c 1).trans rfl⟩
theorem LvI.hp (h : LvI hold win kind age most bc bp bu bh bs w s wr) : wr.cell? ⟨bp, 0, none⟩ = some (.int .i64 kind) ∧ wr.cell? ⟨bp, 1, none⟩ = some (.int .i64 age) ∧ wr.cell? ⟨bp, 2, none⟩ = some (.int .i64 most) := ⟨(blk_cell h.p 0).trans rfl, (blk_cell h.p 1).trans rfl, (blk_cell h.p 2).trans rfl⟩
theorem LvI.hz (h : LvI hold win kind age most bc bp bu bh bs w s wr) : bs < wr.heap.size := blk_lt h.s
end
theorem live_start (hold win kind age most : Int) (w : World) : LvI hold win kind age most w.heap.size (w.heap.size + 1) (w.heap.size + 1 + 1) (w.heap.size + 1 + 1 + 1) (w.heap.size + 1 + 1 + 1 + 1) w ⟨fun _ => false, fun _ => false, fun _ => 0, 0⟩
    (((((w.alloc (.cells #[.int .i64 hold, .int .i64 win] 24)).alloc (.cells #[.int .i64 kind, .int .i64 age, .int .i64 most] 26)).alloc (.cells #[.bool false, .bool false, .bool false] 113)).alloc (.cells #[.bool false, .bool false, .bool false] 113)).alloc (.cells #[.int .i64 0, .int .i64 0, .int .i64 0] 112)) := by
  have a1 := blk_new (w.alloc (.cells #[.int .i64 hold, .int .i64 win] 24)) (.cells #[.int .i64 kind, .int .i64 age, .int .i64 most] 26)
  have a2 := blk_new ((w.alloc (.cells #[.int .i64 hold, .int .i64 win] 24)).alloc (.cells #[.int .i64 kind, .int .i64 age, .int .i64 most] 26)) (.cells #[.bool false, .bool false, .bool false] 113)
  have a3 := blk_new (((w.alloc (.cells #[.int .i64 hold, .int .i64 win] 24)).alloc (.cells #[.int .i64 kind, .int .i64 age, .int .i64 most] 26)).alloc (.cells #[.bool false, .bool false, .bool false] 113)) (.cells #[.bool false, .bool false, .bool false] 113)
  have a4 := blk_new ((((w.alloc (.cells #[.int .i64 hold, .int .i64 win] 24)).alloc (.cells #[.int .i64 kind, .int .i64 age, .int .i64 most] 26)).alloc (.cells #[.bool false, .bool false, .bool false] 113)).alloc (.cells #[.bool false, .bool false, .bool false] 113)) (.cells #[.int .i64 0, .int .i64 0, .int .i64 0] 112)
  simp only [World.size_alloc] at a1 a2 a3 a4
  exact ⟨by repeat (first | exact Below.refl _ _ | apply below_alloc), by omega, blk_alloc (blk_alloc (blk_alloc (blk_alloc (blk_new w _) _) _) _) _, blk_alloc (blk_alloc (blk_alloc a1 _) _) _, blk_alloc (blk_alloc a2 _) _, blk_alloc a3 _, a4⟩

def LivePost (v : Int) (w : World) (e : Ending) (w' : World) : Prop := e = .returned (.int .i64 v) ∧ Below w.heap.size w w'
set_option maxRecDepth 100000 in
set_option maxHeartbeats 8000000 in
theorem live31_any (A : Option Addr) (c : Nat) (l : List S73) (en hold win kind age most : Int) (w : World) (hC : Kd.C k73 w A l.length l) (hc : l.length ≤ c) (hl : l.length ≤ 200) (hpg : ∀ u ∈ l, 0 ≤ u.f0 ∧ u.f0 < 3) (e0 : 0 ≤ en) (e1 : en ≤ 1000000000) (m0 : 0 ≤ most) :
    Calls Try.prog 36 #[.slice A l.length c, .int .i64 en, .agg #[.int .i64 hold, .int .i64 win], .agg #[.int .i64 kind, .int .i64 age, .int .i64 most]] w (LivePost (liveR l hold win kind age most en.toNat).cost w) := by
  obtain ⟨E, rfl⟩ := Int.eq_ofNat_of_zero_le e0
  rw [Int.toNat_natCast]
  have HC := Aside0.mk hC
  have HPG := Aside0.mk hpg
  clear hC hpg e0
  go_enter Try.func36, Try.ntmps36
  go_wp2
  have hst := live_start hold win kind age most w
  generalize (((((w.alloc (.cells #[.int .i64 hold, .int .i64 win] 24)).alloc (.cells #[.int .i64 kind, .int .i64 age, .int .i64 most] 26)).alloc (.cells #[.bool false, .bool false, .bool false] 113)).alloc (.cells #[.bool false, .bool false, .bool false] 113)).alloc (.cells #[.int .i64 0, .int .i64 0, .int .i64 0] 112)) = w0 at *
  have HST := Aside0.mk hst
  clear hst
  generalize hbs : w.heap.size + 1 + 1 + 1 + 1 = bs at *
  generalize hbh : w.heap.size + 1 + 1 + 1 = bh at *
  generalize hbu : w.heap.size + 1 + 1 = bu at *
  generalize hbp : w.heap.size + 1 = bp at *
  generalize hbc : w.heap.size = bc at *
  clear hbs hbh hbu hbp hbc
  go_loopw [12, 13] (fun v12 v13 wr => ∃ t : Nat, t ≤ E ∧ v13 = .int .i64 t ∧ v12 = .int .i64 (liveR l hold win kind age most t).cost ∧ Aside0 (LvI hold win kind age most bc bp bu bh bs w (liveR l hold win kind age most t) wr)) (fun v12 v13 wr => E - (intOf v13).toNat)
  case atStart => exact ⟨0, Nat.zero_le _, rfl, rfl, HST⟩
  case round =>
    obtain ⟨t, ht, rfl, rfl, HI⟩ := hrel
    by_cases hlt : t < E
    · have HTK := Aside0.mk (show liveR l hold win kind age most (t + 1) = tickS l hold win kind age most (t : Int) (liveR l hold win kind age most t) from rfl)
      generalize liveR l hold win kind age most t = s0 at *
      obtain ⟨wo, hwo⟩ : ∃ wo : World, wo = wr := ⟨_, rfl⟩
      subst hwo
      go_wp2
      go_loopw [12, 14] (fun v12 v14 wr => ∃ i : Nat, i ≤ l.length ∧ v14 = .int .i64 i ∧ v12 = .int .i64 (beginN l win (t : Int) s0 i).cost ∧ Aside0 (LvI hold win kind age most bc bp bu bh bs w (beginN l win (t : Int) s0 i) wr)) (fun v12 v14 wr => l.length - (intOf v14).toNat)
      case atStart => exact ⟨0, Nat.zero_le _, rfl, rfl, HI⟩
      case round =>
        clear HI
        obtain ⟨i, hi, rfl, rfl, HI⟩ := hrel
        by_cases hlti : i < l.length
        · obtain ⟨ad, rfl, hx0, hx1, hx2⟩ := at_T73 (Kd.C_below HC.out HI.out.bel) (i : Int) (by omega) (by omega)
          simp only [Int.toNat_natCast] at hx0 hx1 hx2
          have hp := HPG.out l[i] (List.getElem_mem hlti)
          rw [← rd73x_is l i hlti] at hp
          have HBG := Aside0.mk (show beginN l win (t : Int) s0 (i + 1) = if (rd_T73 l (i : Int)).f1 = (t : Int) then lvBegin win (beginN l win (t : Int) s0 i) (rd_T73 l (i : Int)).f0 else beginN l win (t : Int) s0 i from rfl)
          generalize hui : rd_T73 l (i : Int) = u at *
          obtain ⟨p, f, e⟩ := u
          simp only at hx0 hx1 hx2 hp
          obtain ⟨pn, rfl⟩ := Int.eq_ofNat_of_zero_le hp.1
          have hp3 : pn < 3 := by omega
          have HUI := Aside0.mk hui
          clear hui
          generalize beginN l win (t : Int) s0 i = s1 at *
          have LU := Aside0.mk (HI.out.setU pn hp3 true)
          have LH := Aside0.mk (HI.out.setH pn hp3 true)
          obtain ⟨ad2, he2, hxu, _, _⟩ := at_T73 (Kd.C_below HC.out LU.out.bel) (i : Int) (by omega) (by omega)
          injection he2 with he2
          subst he2
          obtain ⟨ad3, he3, hxh, _, _⟩ := at_T73 (Kd.C_below HC.out LH.out.bel) (i : Int) (by omega) (by omega)
          injection he3 with he3
          subst he3
          rw [HUI.out] at hxu hxh
          simp only [Int.toNat_natCast] at hxu hxh
          have cHu := ar3B_cell LU.out.h pn hp3
          have fHu : (wr.setCell ⟨bu, pn, none⟩ (.bool true)).frozen? ⟨bh, pn, none⟩ = false := blk_frozen LU.out.h pn
          have cUh := ar3B_cell LH.out.u pn hp3
          have fUh : (wr.setCell ⟨bh, pn, none⟩ (.bool true)).frozen? ⟨bu, pn, none⟩ = false := blk_frozen LH.out.u pn
          simp only at cHu cUh
          have cH := ar3B_cell HI.out.h pn hp3
          have cU := ar3B_cell HI.out.u pn hp3
          have fH : wr.frozen? ⟨bh, pn, none⟩ = false := blk_frozen HI.out.h pn
          have fU : wr.frozen? ⟨bu, pn, none⟩ = false := blk_frozen HI.out.u pn
          have hc1 := HI.out.hc.2
          have hz := HI.out.hz
          have ho := HI.out.o
          clear hp
          by_cases hft : f = (t : Int)
          · have q1 : (f == (t : Int)) = true := by simpa using hft
            have HB2 := Aside0.mk (show beginN l win (t : Int) s0 (i + 1) = lvBegin win s1 (pn : Int) by rw [HBG.out, if_pos hft])
            clear hft
            cases hh : s1.held (pn : Int) with
            | true =>
              rw [hh] at cH cHu
              have HH := Aside0.mk hh
              clear hh
              go_wp2
              go_region
              go_wp2
              go_roundw
              case rel => exact ⟨i + 1, by omega, by go_num, by rw [HB2.out]; simp only [lvBegin, HH.out, if_true], ⟨by rw [HB2.out]; exact ((LU.out.setH pn hp3 true).step (below_drew (Below.refl _ _))).cost rfl rfl rfl⟩⟩
              case measure => simp [intOf]; omega
            | false =>
              rw [hh] at cH cHu
              have HH := Aside0.mk hh
              clear hh
              go_wp2
              go_region
              go_wp2
              go_roundw
              case rel => exact ⟨i + 1, by omega, by go_num, by rw [HB2.out]; simp only [lvBegin, HH.out, Bool.false_eq_true, if_false, IntWalk.i64_left], ⟨by rw [HB2.out]; exact ((LU.out.setH pn hp3 true).step (below_drew (Below.refl _ _))).cost rfl rfl rfl⟩⟩
              case measure => simp [intOf]; omega
          · have q1 : (f == (t : Int)) = false := by simpa using hft
            have HB2 := Aside0.mk (show beginN l win (t : Int) s0 (i + 1) = s1 by rw [HBG.out, if_neg hft])
            clear hft
            go_wp2
            go_roundw
            case rel => exact ⟨i + 1, by omega, by go_num, by rw [HB2.out], by rw [HB2.out]; exact HI⟩
            case measure => simp [intOf]; omega
        · obtain rfl : i = l.length := by omega
          obtain ⟨wo1, hwo1⟩ : ∃ wo : World, wo = wr := ⟨_, rfl⟩
          subst hwo1
          obtain ⟨s1, hs1⟩ : ∃ s1, beginN l win (t : Int) s0 l.length = s1 := ⟨_, rfl⟩
          have HS1 := Aside0.mk hs1
          rw [hs1] at HI
          rw [hs1]
          clear hs1 hlti hi
          go_wp2
          go_loopw [15] (fun v15 wr => ∃ i : Nat, i ≤ l.length ∧ v15 = .int .i64 i ∧ Aside0 (LvI hold win kind age most bc bp bu bh bs w (endN l (t : Int) s1 i) wr ∧ (endN l (t : Int) s1 i).cost = s1.cost)) (fun v15 wr => l.length - (intOf v15).toNat)
          case atStart => exact ⟨0, Nat.zero_le _, rfl, ⟨HI.out, rfl⟩⟩
          case round =>
            clear HI
            obtain ⟨i, hi, rfl, HI⟩ := hrel
            by_cases hlti : i < l.length
            · obtain ⟨ad, rfl, hx0, hx1, hx2⟩ := at_T73 (Kd.C_below HC.out HI.out.1.bel) (i : Int) (by omega) (by omega)
              simp only [Int.toNat_natCast] at hx0 hx1 hx2
              have hp := HPG.out l[i] (List.getElem_mem hlti)
              rw [← rd73x_is l i hlti] at hp
              have HBG := Aside0.mk (show endN l (t : Int) s1 (i + 1) = if (rd_T73 l (i : Int)).f2 = (t : Int) then lvEnd (t : Int) (endN l (t : Int) s1 i) (rd_T73 l (i : Int)).f0 else endN l (t : Int) s1 i from rfl)
              generalize hui : rd_T73 l (i : Int) = u at *
              obtain ⟨p, f, e⟩ := u
              simp only at hx0 hx1 hx2 hp
              obtain ⟨pn, rfl⟩ := Int.eq_ofNat_of_zero_le hp.1
              have hp3 : pn < 3 := by omega
              have HUI := Aside0.mk hui
              clear hui
              generalize endN l (t : Int) s1 i = s2 at *
              have LU := Aside0.mk (HI.out.1.setU pn hp3 false)
              have LS := Aside0.mk (HI.out.1.setS pn hp3 (t : Int))
              obtain ⟨ad2, he2, hxu, _, _⟩ := at_T73 (Kd.C_below HC.out LU.out.bel) (i : Int) (by omega) (by omega)
              injection he2 with he2
              subst he2
              obtain ⟨ad3, he3, hxs, _, _⟩ := at_T73 (Kd.C_below HC.out LS.out.bel) (i : Int) (by omega) (by omega)
              injection he3 with he3
              subst he3
              rw [HUI.out] at hxu hxs
              simp only [Int.toNat_natCast] at hxu hxs
              have cS := ar3I_cell HI.out.1.s pn hp3
              have cU := ar3B_cell HI.out.1.u pn hp3
              have fS : wr.frozen? ⟨bs, pn, none⟩ = false := blk_frozen HI.out.1.s pn
              have fU : wr.frozen? ⟨bu, pn, none⟩ = false := blk_frozen HI.out.1.u pn
              have cSu := ar3I_cell LU.out.s pn hp3
              have fSu : (wr.setCell ⟨bu, pn, none⟩ (.bool false)).frozen? ⟨bs, pn, none⟩ = false := blk_frozen LU.out.s pn
              have cUs := ar3B_cell LS.out.u pn hp3
              have fUs : (wr.setCell ⟨bs, pn, none⟩ (.int .i64 (t : Int))).frozen? ⟨bu, pn, none⟩ = false := blk_frozen LS.out.u pn
              simp only at cSu cUs
              have hz := HI.out.1.hz
              have ho := HI.out.1.o
              clear hp
              by_cases hft : e = (t : Int)
              · have q1 : (e == (t : Int)) = true := by simpa using hft
                have HB2 := Aside0.mk (show endN l (t : Int) s1 (i + 1) = lvEnd (t : Int) s2 (pn : Int) by rw [HBG.out, if_pos hft])
                clear hft
                go_wp2
                go_region
                go_wp2
                go_roundw
                case rel => exact ⟨i + 1, by omega, by go_num, ⟨by rw [HB2.out]; exact ((LU.out.setS pn hp3 (t : Int)).step (below_drew (Below.refl _ _))).cost rfl rfl rfl, by rw [HB2.out]; exact HI.out.2⟩⟩
                case measure => simp [intOf]; omega
              · have q1 : (e == (t : Int)) = false := by simpa using hft
                have HB2 := Aside0.mk (show endN l (t : Int) s1 (i + 1) = s2 by rw [HBG.out, if_neg hft])
                clear hft
                go_wp2
                go_roundw
                case rel => exact ⟨i + 1, by omega, by go_num, by rw [HB2.out]; exact HI⟩
                case measure => simp [intOf]; omega
            · obtain rfl : i = l.length := by omega
              obtain ⟨wo2, hwo2⟩ : ∃ wo : World, wo = wr := ⟨_, rfl⟩
              subst hwo2
              have HSE := Aside0.mk (show endsS l win (t : Int) s0 = endN l (t : Int) s1 l.length by unfold endsS; rw [HS1.out])
              obtain ⟨s2, hs2⟩ : ∃ s2, endN l (t : Int) s1 l.length = s2 := ⟨_, rfl⟩
              rw [hs2] at HI HSE
              clear hs2 hlti hi HS1
              have hcost := Aside0.mk HI.out.2
              have HL := Aside0.mk HI.out.1
              clear HI
              go_wp2
              go_loopw [16, 17] (fun v16 v17 wr => ∃ k : Nat, k ≤ 3 ∧ v17 = .int .i64 k ∧ v16 = .int .i64 (idleN s2 k : Nat) ∧ Aside0 (LvI hold win kind age most bc bp bu bh bs w s2 wr)) (fun v16 v17 wr => 3 - (intOf v17).toNat)
              case atStart => exact ⟨0, Nat.zero_le _, rfl, rfl, HL⟩
              case round =>
                obtain ⟨k, hk, rfl, rfl, HI⟩ := hrel
                have hid := idleN_le s2 k
                by_cases hlk : k < 3
                · have cH := ar3B_cell HI.out.h k hlk
                  have cU := ar3B_cell HI.out.u k hlk
                  have hz := HI.out.hz
                  have HSN := Aside0.mk (show idleN s2 (k + 1) = if idleB s2 (k : Int) = true then idleN s2 k + 1 else idleN s2 k from rfl)
                  have HIB := Aside0.mk (show idleB s2 (k : Int) = (s2.held (k : Int) && !s2.used (k : Int)) from rfl)
                  generalize idleN s2 k = m at *
                  cases hh : s2.held (k : Int) with
                  | true =>
                    cases hu : s2.used (k : Int) with
                    | true =>
                      rw [hh] at cH HIB
                      rw [hu] at cU HIB
                      clear hh hu
                      go_wp2
                      go_roundw
                      case rel => exact ⟨k + 1, by omega, by go_num, by rw [HSN.out, HIB.out]; rfl, HI⟩
                      case measure => simp [intOf]; omega
                    | false =>
                      rw [hh] at cH HIB
                      rw [hu] at cU HIB
                      clear hh hu
                      go_wp2
                      go_roundw
                      case rel => exact ⟨k + 1, by omega, by go_num, by rw [HSN.out, HIB.out]; go_num, HI⟩
                      case measure => simp [intOf]; omega
                  | false =>
                    rw [hh] at cH HIB
                    clear hh
                    go_wp2
                    go_roundw
                    case rel => exact ⟨k + 1, by omega, by go_num, by rw [HSN.out, HIB.out]; rfl, HI⟩
                    case measure => simp [intOf]; omega
                · obtain rfl : k = 3 := by omega
                  rw [show ((3 : Nat) : Int) = (3 : Int) from rfl]
                  obtain ⟨wo3, hwo3⟩ : ∃ wo : World, wo = wr := ⟨_, rfl⟩
                  subst hwo3
                  clear HL hlk hk
                  go_wp2
                  go_loopw [18] (fun v18 wr => ∃ k : Nat, k ≤ 3 ∧ v18 = .int .i64 k ∧ Aside0 (LvI hold win kind age most bc bp bu bh bs w (dropN kind age (t : Int) s2 k) wr ∧ (dropN kind age (t : Int) s2 k).cost = s2.cost)) (fun v18 wr => 3 - (intOf v18).toNat)
                  case atStart => exact ⟨0, Nat.zero_le _, rfl, ⟨HI.out, rfl⟩⟩
                  case round =>
                    clear HI
                    obtain ⟨k, hk, rfl, HI⟩ := hrel
                    by_cases hlk : k < 3
                    · have HDN := Aside0.mk (show dropN kind age (t : Int) s2 (k + 1) = if goesB kind age (t : Int) (dropN kind age (t : Int) s2 k) (k : Int) = true then lvDrop (dropN kind age (t : Int) s2 k) (k : Int) else dropN kind age (t : Int) s2 k from rfl)
                      generalize dropN kind age (t : Int) s2 k = s3 at *
                      have cH := ar3B_cell HI.out.1.h k hlk
                      have fH : wr.frozen? ⟨bh, k, none⟩ = false := blk_frozen HI.out.1.h k
                      have cU := ar3B_cell HI.out.1.u k hlk
                      have cS := ar3I_cell HI.out.1.s k hlk
                      have hz := HI.out.1.hz
                      have ho := HI.out.1.o
                      have hk0 := HI.out.1.hp.1
                      have hk1 := HI.out.1.hp.2.1
                      have HGB := Aside0.mk (show goesB kind age (t : Int) s3 (k : Int) = ((s3.held (k : Int) && !s3.used (k : Int)) && (kind == 2 || (kind == 3 && decide (age ≤ wrap64 ((t : Int) - s3.since (k : Int)))))) from rfl)
                      have HWR := Aside0.mk (show IntKind.i64.wrap ((t : Int) - s3.since (k : Int)) = wrap64 ((t : Int) - s3.since (k : Int)) from IntWalk.i64_left _)
                      cases hh : s3.held (k : Int) with
                      | false =>
                        rw [hh] at cH HGB
                        have HGO : Aside0 (goesB kind age (t : Int) s3 (k : Int) = false) := ⟨by rw [HGB.out]; rfl⟩
                        clear hh
                        go_wp2
                        go_quiet (fail)
                        go_wp2
                        go_roundw
                        case rel => exact ⟨k + 1, by omega, by go_num, ⟨by rw [HDN.out, HGO.out]; exact HI.out.1.step (pw_below_drewN (Below.refl _ _) _), by rw [HDN.out, HGO.out]; exact HI.out.2⟩⟩
                        case measure => simp [intOf]; omega
                      | true =>
                        cases hu : s3.used (k : Int) with
                        | true =>
                          rw [hh] at cH HGB
                          rw [hu] at cU HGB
                          have HGO : Aside0 (goesB kind age (t : Int) s3 (k : Int) = false) := ⟨by rw [HGB.out]; rfl⟩
                          clear hh hu
                          go_wp2
                          go_quiet (fail)
                          go_wp2
                          go_roundw
                          case rel => exact ⟨k + 1, by omega, by go_num, ⟨by rw [HDN.out, HGO.out]; exact HI.out.1.step (pw_below_drewN (Below.refl _ _) _), by rw [HDN.out, HGO.out]; exact HI.out.2⟩⟩
                          case measure => simp [intOf]; omega
                        | false =>
                          rw [hh] at cH HGB
                          rw [hu] at cU HGB
                          clear hh hu
                          by_cases h2 : kind = 2
                          · have q2 : (kind == 2) = true := by simpa using h2
                            have HGO : Aside0 (goesB kind age (t : Int) s3 (k : Int) = true) := ⟨by rw [HGB.out, q2]; rfl⟩
                            clear h2
                            go_wp2
                            go_quiet (fail)
                            go_wp2
                            go_roundw
                            case rel => exact ⟨k + 1, by omega, by go_num, ⟨by rw [HDN.out, HGO.out]; exact ((HI.out.1.step (pw_below_drewN (Below.refl wr.heap.size wr) nq)).setH k hlk false).cost rfl rfl rfl, by rw [HDN.out, HGO.out]; exact HI.out.2⟩⟩
                            case measure => simp [intOf]; omega
                          · have q2 : (kind == 2) = false := by simpa using h2
                            clear h2
                            by_cases h3 : kind = 3
                            · have q3 : (kind == 3) = true := by simpa using h3
                              clear h3
                              cases hd : decide (age ≤ wrap64 ((t : Int) - s3.since (k : Int))) with
                              | true =>
                                have HGO : Aside0 (goesB kind age (t : Int) s3 (k : Int) = true) := ⟨by rw [HGB.out, q2, q3, hd]; rfl⟩
                                have q4 : decide (age ≤ IntKind.i64.wrap ((t : Int) - s3.since (k : Int))) = true := by rw [HWR.out]; exact hd
                                go_wp2
                                go_quiet (fail)
                                go_wp2
                                go_roundw
                                case rel => exact ⟨k + 1, by omega, by go_num, ⟨by rw [HDN.out, HGO.out]; exact ((HI.out.1.step (pw_below_drewN (Below.refl wr.heap.size wr) nq)).setH k hlk false).cost rfl rfl rfl, by rw [HDN.out, HGO.out]; exact HI.out.2⟩⟩
                                case measure => simp [intOf]; omega
                              | false =>
                                have HGO : Aside0 (goesB kind age (t : Int) s3 (k : Int) = false) := ⟨by rw [HGB.out, q2, q3, hd]; rfl⟩
                                have q4 : decide (age ≤ IntKind.i64.wrap ((t : Int) - s3.since (k : Int))) = false := by rw [HWR.out]; exact hd
                                go_wp2
                                go_quiet (fail)
                                go_wp2
                                go_roundw
                                case rel => exact ⟨k + 1, by omega, by go_num, ⟨by rw [HDN.out, HGO.out]; exact HI.out.1.step (pw_below_drewN (Below.refl _ _) _), by rw [HDN.out, HGO.out]; exact HI.out.2⟩⟩
                                case measure => simp [intOf]; omega
                            · have q3 : (kind == 3) = false := by simpa using h3
                              have HGO : Aside0 (goesB kind age (t : Int) s3 (k : Int) = false) := ⟨by rw [HGB.out, q2, q3]; rfl⟩
                              clear h3
                              go_wp2
                              go_quiet (fail)
                              go_wp2
                              go_roundw
                              case rel => exact ⟨k + 1, by omega, by go_num, ⟨by rw [HDN.out, HGO.out]; exact HI.out.1.step (pw_below_drewN (Below.refl _ _) _), by rw [HDN.out, HGO.out]; exact HI.out.2⟩⟩
                              case measure => simp [intOf]; omega
                    · obtain rfl : k = 3 := by omega
                      rw [show ((3 : Nat) : Int) = (3 : Int) from rfl]
                      obtain ⟨wo4, hwo4⟩ : ∃ wo : World, wo = wr := ⟨_, rfl⟩
                      subst hwo4
                      clear hlk hk
                      have HKS := Aside0.mk (show keptS l win kind age most (t : Int) s0 = evS kind most 3 (dropN kind age (t : Int) s2 3) by unfold keptS; rw [HSE.out])
                      have HM4 : Aside0 (kind = 4 → idleN s2 3 = idleN (dropN kind age (t : Int) s2 3) 3) := ⟨fun h => by rw [h, drop_four]⟩
                      have HCO := Aside0.mk (show (dropN kind age (t : Int) s2 3).cost = s1.cost by rw [HI.out.2, hcost.out])
                      have hid0 := idleN_le s2 3
                      have HL6 := Aside0.mk HI.out.1
                      clear HI
                      generalize dropN kind age (t : Int) s2 3 = s4 at *
                      go_wp2
                      go_loopw [16] (fun v16 wr => ∃ (m : Nat) (s5 : LvS) (f : Nat), m ≤ 3 ∧ v16 = .int .i64 m ∧ Aside0 ((kind = 4 → m = idleN s5 3 ∧ m ≤ f) ∧ evS kind most 3 s4 = evS kind most f s5 ∧ s5.cost = s1.cost ∧ LvI hold win kind age most bc bp bu bh bs w s5 wr)) (fun v16 wr => (intOf v16).toNat)
                      case atStart => exact ⟨idleN s2 3, s4, 3, hid0, rfl, ⟨fun h => ⟨HM4.out h, hid0⟩, rfl, HCO.out, HL6.out⟩⟩
                      case round =>
                        clear HL6 HM4 hid0
                        obtain ⟨m, s5, f, hm3, rfl, HI⟩ := hrel
                        have hk0 := HI.out.2.2.2.hp.1
                        have hk2 := HI.out.2.2.2.hp.2.2
                        by_cases hgo : kind = 4 ∧ most < (m : Int)
                        · obtain ⟨h4, hmo⟩ := hgo
                          have q4 : (kind == 4) = true := by simpa using h4
                          have HE := Aside0.mk (HI.out.1 h4)
                          have H4 := Aside0.mk h4
                          clear h4
                          obtain ⟨wo6, hwo6⟩ : ∃ wo : World, wo = wr := ⟨_, rfl⟩
                          subst hwo6
                          go_wp2
                          go_loopw [19, 20] (fun v19 v20 wr => ∃ k : Nat, k ≤ 3 ∧ v20 = .int .i64 k ∧ v19 = .int .i64 (firstN s5 k) ∧ Aside0 (LvI hold win kind age most bc bp bu bh bs w s5 wr)) (fun v19 v20 wr => 3 - (intOf v20).toNat)
                          case atStart => exact ⟨0, Nat.zero_le _, rfl, rfl, ⟨HI.out.2.2.2⟩⟩
                          case round =>
                            obtain ⟨k, hk, rfl, rfl, HJ⟩ := hrel
                            have hfb := firstN_bd s5 k
                            by_cases hlk : k < 3
                            · have HFN := Aside0.mk (show firstN s5 (k + 1) = if idleB s5 (k : Int) = true ∧ (firstN s5 k < 0 ∨ s5.since (k : Int) < s5.since (firstN s5 k)) then (k : Int) else firstN s5 k from rfl)
                              have HIB := Aside0.mk (show idleB s5 (k : Int) = (s5.held (k : Int) && !s5.used (k : Int)) from rfl)
                              have cH := ar3B_cell HJ.out.h k hlk
                              have cU := ar3B_cell HJ.out.u k hlk
                              have cS := ar3I_cell HJ.out.s k hlk
                              have hz := HJ.out.hz
                              have ho := HJ.out.o
                              clear HI HE
                              generalize firstN s5 k = v at *
                              by_cases hneg : v < 0
                              · obtain rfl : v = -1 := by omega
                                clear hneg hfb
                                cases hh : s5.held (k : Int) with
                                | false =>
                                  rw [hh] at cH HIB
                                  have HF1 : Aside0 (firstN s5 (k + 1) = -1) := ⟨by rw [HFN.out, if_neg]; rw [HIB.out]; simp⟩
                                  clear hh
                                  go_wp2
                                  go_quiet (fail)
                                  go_wp2
                                  go_roundw
                                  case rel => exact ⟨k + 1, by omega, by go_num, by rw [HF1.out], ⟨HJ.out.step (pw_below_drewN (Below.refl _ _) _)⟩⟩
                                  case measure => simp [intOf]; omega
                                | true =>
                                  cases hu : s5.used (k : Int) with
                                  | true =>
                                    rw [hh] at cH HIB
                                    rw [hu] at cU HIB
                                    have HF1 : Aside0 (firstN s5 (k + 1) = -1) := ⟨by rw [HFN.out, if_neg]; rw [HIB.out]; simp⟩
                                    clear hh hu
                                    go_wp2
                                    go_quiet (fail)
                                    go_wp2
                                    go_roundw
                                    case rel => exact ⟨k + 1, by omega, by go_num, by rw [HF1.out], ⟨HJ.out.step (pw_below_drewN (Below.refl _ _) _)⟩⟩
                                    case measure => simp [intOf]; omega
                                  | false =>
                                    rw [hh] at cH HIB
                                    rw [hu] at cU HIB
                                    have HF1 : Aside0 (firstN s5 (k + 1) = (k : Int)) := ⟨by rw [HFN.out, if_pos]; exact ⟨by rw [HIB.out]; rfl, Or.inl (by decide)⟩⟩
                                    clear hh hu
                                    go_wp2
                                    go_quiet (fail)
                                    go_wp2
                                    go_roundw
                                    case rel => exact ⟨k + 1, by omega, by go_num, by rw [HF1.out], ⟨HJ.out.step (pw_below_drewN (Below.refl _ _) _)⟩⟩
                                    case measure => simp [intOf]; omega
                              · obtain ⟨fn, rfl⟩ := Int.eq_ofNat_of_zero_le (show 0 ≤ v by omega)
                                have hf3 : fn < 3 := by omega
                                have cF := ar3I_cell HJ.out.s fn hf3
                                have q6 : decide ((fn : Int) < 0) = false := by simp
                                have HNG := Aside0.mk hneg
                                clear hneg hfb
                                cases hh : s5.held (k : Int) with
                                | false =>
                                  rw [hh] at cH HIB
                                  have HF1 : Aside0 (firstN s5 (k + 1) = (fn : Int)) := ⟨by rw [HFN.out, if_neg]; rw [HIB.out]; simp⟩
                                  clear hh
                                  go_wp2
                                  go_quiet (fail)
                                  go_wp2
                                  go_roundw
                                  case rel => exact ⟨k + 1, by omega, by go_num, by rw [HF1.out], ⟨HJ.out.step (pw_below_drewN (Below.refl _ _) _)⟩⟩
                                  case measure => simp [intOf]; omega
                                | true =>
                                  cases hu : s5.used (k : Int) with
                                  | true =>
                                    rw [hh] at cH HIB
                                    rw [hu] at cU HIB
                                    have HF1 : Aside0 (firstN s5 (k + 1) = (fn : Int)) := ⟨by rw [HFN.out, if_neg]; rw [HIB.out]; simp⟩
                                    clear hh hu
                                    go_wp2
                                    go_quiet (fail)
                                    go_wp2
                                    go_roundw
                                    case rel => exact ⟨k + 1, by omega, by go_num, by rw [HF1.out], ⟨HJ.out.step (pw_below_drewN (Below.refl _ _) _)⟩⟩
                                    case measure => simp [intOf]; omega
                                  | false =>
                                    rw [hh] at cH HIB
                                    rw [hu] at cU HIB
                                    by_cases hls : s5.since (k : Int) < s5.since (fn : Int)
                                    · have HF1 : Aside0 (firstN s5 (k + 1) = (k : Int)) := ⟨by rw [HFN.out, if_pos]; exact ⟨by rw [HIB.out]; rfl, Or.inr hls⟩⟩
                                      have q5 : decide (s5.since (k : Int) < s5.since (fn : Int)) = true := by simpa using hls
                                      clear hh hu
                                      go_wp2
                                      go_quiet (fail)
                                      go_wp2
                                      go_roundw
                                      case rel => exact ⟨k + 1, by omega, by go_num, by rw [HF1.out], ⟨HJ.out.step (pw_below_drewN (Below.refl _ _) _)⟩⟩
                                      case measure => simp [intOf]; omega
                                    · have HF1 : Aside0 (firstN s5 (k + 1) = (fn : Int)) := ⟨by rw [HFN.out, if_neg]; rintro ⟨_, h | h⟩; exact HNG.out h; exact hls h⟩
                                      have q5 : decide (s5.since (k : Int) < s5.since (fn : Int)) = false := by simpa using hls
                                      clear hh hu
                                      go_wp2
                                      go_quiet (fail)
                                      go_wp2
                                      go_roundw
                                      case rel => exact ⟨k + 1, by omega, by go_num, by rw [HF1.out], ⟨HJ.out.step (pw_below_drewN (Below.refl _ _) _)⟩⟩
                                      case measure => simp [intOf]; omega
                            · obtain rfl : k = 3 := by omega
                              have hid := HE.out.1
                              obtain ⟨h1, h2, h3, h4⟩ := hfb
                              obtain ⟨fn, hfn⟩ := Int.eq_ofNat_of_zero_le (h3 (by omega))
                              have HFI := Aside0.mk (show idleB s5 (fn : Int) = true by rw [← hfn]; exact h4 (by omega))
                              have hf3 : fn < 3 := by omega
                              obtain ⟨m', rfl⟩ : ∃ m', m = m' + 1 := ⟨m - 1, by omega⟩
                              obtain ⟨f', rfl⟩ : ∃ f', f = f' + 1 := ⟨f - 1, by have := HE.out.2; omega⟩
                              have HEV : Aside0 (evS kind most (f' + 1) s5 = evS kind most f' (lvDrop s5 (fn : Int))) := ⟨by rw [evS, if_pos ⟨H4.out, by omega⟩, hfn]⟩
                              have HID : Aside0 (m' = idleN (lvDrop s5 (fn : Int)) 3) := ⟨by have := idleN_drop s5 fn HFI.out 3; rw [if_pos hf3] at this; omega⟩
                              have cH := ar3B_cell HJ.out.h fn hf3
                              have fH : wr.frozen? ⟨bh, fn, none⟩ = false := blk_frozen HJ.out.h fn
                              have hz := HJ.out.hz
                              have ho := HJ.out.o
                              rw [hfn]
                              clear h1 h2 h3 h4 hid hfn
                              go_wp2
                              go_roundw
                              case rel => exact ⟨m', lvDrop s5 (fn : Int), f', by omega, by go_num, ⟨fun _ => ⟨HID.out, by have := HE.out.2; omega⟩, by exact HI.out.2.1.trans HEV.out, HI.out.2.2.1, (HJ.out.setH fn hf3 false).cost rfl rfl rfl⟩⟩
                              case measure => simp [intOf]
                        · have HX : Aside0 (evS kind most 3 s4 = s5) := ⟨by
                            rw [HI.out.2.1]
                            cases f with
                            | zero => rfl
                            | succ f =>
                              rw [evS, if_neg]
                              intro h
                              exact hgo ⟨h.1, by have := (HI.out.1 h.1).1; omega⟩⟩
                          have HL8 := Aside0.mk HI.out.2.2.2
                          have HC5 := Aside0.mk HI.out.2.2.1
                          rw [HX.out] at HKS
                          obtain ⟨wo7, hwo7⟩ : ∃ wo : World, wo = wr := ⟨_, rfl⟩
                          subst hwo7
                          clear HI
                          by_cases h4 : kind = 4
                          · have hmo : ¬ most < (m : Int) := fun h => hgo ⟨h4, h⟩
                            have q4 : (kind == 4) = true := by simpa using h4
                            clear hgo h4
                            go_wp2
                            go_loopw [12, 21] (fun v12 v21 wr => ∃ k : Nat, k ≤ 3 ∧ v21 = .int .i64 k ∧ v12 = .int .i64 (payN hold s5 k) ∧ Aside0 (LvI hold win kind age most bc bp bu bh bs w s5 wr)) (fun v12 v21 wr => 3 - (intOf v21).toNat)
                            case atStart => exact ⟨0, Nat.zero_le _, rfl, by rw [show payN hold s5 0 = s5.cost from rfl, HC5.out], HL8⟩
                            case round =>
                              obtain ⟨k, hk, rfl, rfl, HI⟩ := hrel
                              by_cases hlk : k < 3
                              · have cH := ar3B_cell HI.out.h k hlk
                                have cU := ar3B_cell HI.out.u k hlk
                                have hz := HI.out.hz
                                have ho := HI.out.o
                                have hc0 := HI.out.hc.1
                                have HSN := Aside0.mk (show payN hold s5 (k + 1) = if idleB s5 (k : Int) = true then wrap64 (payN hold s5 k + hold) else payN hold s5 k from rfl)
                                have HIB := Aside0.mk (show idleB s5 (k : Int) = (s5.held (k : Int) && !s5.used (k : Int)) from rfl)
                                generalize payN hold s5 k = m at *
                                cases hh : s5.held (k : Int) with
                                | true =>
                                  cases hu : s5.used (k : Int) with
                                  | true =>
                                    rw [hh] at cH HIB
                                    rw [hu] at cU HIB
                                    clear hh hu
                                    go_wp2
                                    go_roundw
                                    case rel => exact ⟨k + 1, by omega, by go_num, by rw [HSN.out, HIB.out]; rfl, HI⟩
                                    case measure => simp [intOf]; omega
                                  | false =>
                                    rw [hh] at cH HIB
                                    rw [hu] at cU HIB
                                    clear hh hu
                                    go_wp2
                                    go_roundw
                                    case rel => exact ⟨k + 1, by omega, by go_num, by rw [HSN.out, HIB.out]; rfl, HI⟩
                                    case measure => simp [intOf]; omega
                                | false =>
                                  rw [hh] at cH HIB
                                  clear hh
                                  go_wp2
                                  go_roundw
                                  case rel => exact ⟨k + 1, by omega, by go_num, by rw [HSN.out, HIB.out]; rfl, HI⟩
                                  case measure => simp [intOf]; omega
                              · obtain rfl : k = 3 := by omega
                                go_wp2
                                go_roundw
                                case rel => exact ⟨t + 1, by omega, by go_num, by rw [HTK.out]; unfold tickS; rw [HKS.out], ⟨by rw [HTK.out]; exact HI.out.cost (by unfold tickS; rw [HKS.out]) (by unfold tickS; rw [HKS.out]) (by unfold tickS; rw [HKS.out])⟩⟩
                                case measure => simp [intOf]; omega
                          · have q4 : (kind == 4) = false := by simpa using h4
                            clear hgo h4
                            go_wp2
                            go_loopw [12, 21] (fun v12 v21 wr => ∃ k : Nat, k ≤ 3 ∧ v21 = .int .i64 k ∧ v12 = .int .i64 (payN hold s5 k) ∧ Aside0 (LvI hold win kind age most bc bp bu bh bs w s5 wr)) (fun v12 v21 wr => 3 - (intOf v21).toNat)
                            case atStart => exact ⟨0, Nat.zero_le _, rfl, by rw [show payN hold s5 0 = s5.cost from rfl, HC5.out], HL8⟩
                            case round =>
                              obtain ⟨k, hk, rfl, rfl, HI⟩ := hrel
                              by_cases hlk : k < 3
                              · have cH := ar3B_cell HI.out.h k hlk
                                have cU := ar3B_cell HI.out.u k hlk
                                have hz := HI.out.hz
                                have ho := HI.out.o
                                have hc0 := HI.out.hc.1
                                have HSN := Aside0.mk (show payN hold s5 (k + 1) = if idleB s5 (k : Int) = true then wrap64 (payN hold s5 k + hold) else payN hold s5 k from rfl)
                                have HIB := Aside0.mk (show idleB s5 (k : Int) = (s5.held (k : Int) && !s5.used (k : Int)) from rfl)
                                generalize payN hold s5 k = m at *
                                cases hh : s5.held (k : Int) with
                                | true =>
                                  cases hu : s5.used (k : Int) with
                                  | true =>
                                    rw [hh] at cH HIB
                                    rw [hu] at cU HIB
                                    clear hh hu
                                    go_wp2
                                    go_roundw
                                    case rel => exact ⟨k + 1, by omega, by go_num, by rw [HSN.out, HIB.out]; rfl, HI⟩
                                    case measure => simp [intOf]; omega
                                  | false =>
                                    rw [hh] at cH HIB
                                    rw [hu] at cU HIB
                                    clear hh hu
                                    go_wp2
                                    go_roundw
                                    case rel => exact ⟨k + 1, by omega, by go_num, by rw [HSN.out, HIB.out]; rfl, HI⟩
                                    case measure => simp [intOf]; omega
                                | false =>
                                  rw [hh] at cH HIB
                                  clear hh
                                  go_wp2
                                  go_roundw
                                  case rel => exact ⟨k + 1, by omega, by go_num, by rw [HSN.out, HIB.out]; rfl, HI⟩
                                  case measure => simp [intOf]; omega
                              · obtain rfl : k = 3 := by omega
                                go_wp2
                                go_roundw
                                case rel => exact ⟨t + 1, by omega, by go_num, by rw [HTK.out]; unfold tickS; rw [HKS.out], ⟨by rw [HTK.out]; exact HI.out.cost (by unfold tickS; rw [HKS.out]) (by unfold tickS; rw [HKS.out]) (by unfold tickS; rw [HKS.out])⟩⟩
                                case measure => simp [intOf]; omega
    · obtain rfl : t = E := by omega
      go_wp2
      go_ret
      exact ⟨rfl, HI.out.bel⟩
end Go.Proofs.Ytdkfmbammdmohaa.PPolicyCosts

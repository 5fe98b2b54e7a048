/- The reference's Check, walked. -/
import Derived.Test.YtdkfmbammdmohaaZ1
import Derived.Deep.RegionWith
import Derived.Test.YtdkfmbammdmohaaZ6
namespace Go.Proofs.Ytdkfmbammdmohaa.PPolicyCosts
open Go.RowKit Go.Proofs.YtdkfmbammdmohaaW.PrintWords Go.Proofs.YtdkfmbammdmohaaW.PrintLast Go.Proofs.YtdkfmbammdmohaaW.PrintMore
attribute [local go_sem] max2_int min2_int max_two min_two max_three min_three max_four min_four
set_option linter.unusedVariables false
set_option linter.unusedSimpArgs false

theorem from_f (a b : Int) (w : World) (h : outB a b = false) : Calls Try.prog 32 #[.int .i64 a, .int .i64 0, .int .i64 b] w fun e w' => e = .returned (.bool true) ∧ w' = w := by
  simp [outB] at h
  obtain ⟨h1, h2⟩ := h
  go_enter Try.func32, Try.ntmps32
  go_wp2
  go_ret
  exact ⟨rfl, rfl⟩
theorem from_t (a b : Int) (w : World) (h : outB a b = true) : Calls Try.prog 32 #[.int .i64 a, .int .i64 0, .int .i64 b] w fun e w' => e = .returned (.bool false) ∧ w' = w := by
  simp [outB] at h
  by_cases h0 : a < 0
  · go_enter Try.func32, Try.ntmps32
    go_wp2
    go_ret
    exact ⟨rfl, rfl⟩
  · have h1 : 0 ≤ a := by omega
    have h2 : b < a := by omega
    have h3 : ¬ a ≤ b := by omega
    clear h h0
    go_enter Try.func32, Try.ntmps32
    go_wp2
    go_ret
    exact ⟨by simp, rfl⟩

/-- A use stands well behind all before it. -/
def OrdAt (l : List S73) (i : Nat) : Prop :=
  (0 < i → (rd_T73 l ((i : Int) - 1)).f1 < (rd_T73 l (i : Int)).f1 ∨ ((rd_T73 l ((i : Int) - 1)).f1 = (rd_T73 l (i : Int)).f1 ∧ (rd_T73 l ((i : Int) - 1)).f0 < (rd_T73 l (i : Int)).f0)) ∧
    ∀ k : Nat, k < i → (rd_T73 l (k : Int)).f0 = (rd_T73 l (i : Int)).f0 → (rd_T73 l (k : Int)).f2 < (rd_T73 l (i : Int)).f1
/-- What Check of the reference comes to. -/
def RefPost (l : List S73) (w : World) (e : Ending) (w' : World) : Prop :=
  Below w.heap.size w w' ∧ ((l.length > 200 ∧ e = .returned (.int .i64 3)) ∨
    (l.length ≤ 200 ∧ (∃ k : Nat, k < l.length ∧ wrongU (rd_T73 l (k : Int)) = true) ∧ e = .returned (.int .i64 7)) ∨
    (l.length ≤ 200 ∧ (∀ k : Nat, k < l.length → wrongU (rd_T73 l (k : Int)) = false) ∧ (∃ i : Nat, i < l.length ∧ (∀ j : Nat, j < i → OrdAt l j) ∧ ¬ OrdAt l i) ∧ e = .returned (.int .i64 6)) ∨
    (l.length ≤ 200 ∧ (∀ k : Nat, k < l.length → wrongU (rd_T73 l (k : Int)) = false) ∧ (∀ i : Nat, i < l.length → OrdAt l i) ∧ e = .returned (.int .i64 0)))

def AllRight (l : List S73) (n : Nat) : Prop := ∀ k : Nat, k < n → wrongU (rd_T73 l (k : Int)) = false
theorem AllRight.snoc {l : List S73} {n : Nat} (h : AllRight l n) (h2 : wrongU (rd_T73 l (n : Int)) = false) : AllRight l (n + 1) := fun k hk => by
  by_cases h3 : k = n
  · subst h3; exact h2
  · exact h k (by omega)
def AllOrd (l : List S73) (n : Nat) : Prop := ∀ k : Nat, k < n → OrdAt l k
theorem AllOrd.snoc {l : List S73} {n : Nat} (h : AllOrd l n) (h2 : OrdAt l n) : AllOrd l (n + 1) := fun k hk => by
  by_cases h3 : k = n
  · subst h3; exact h2
  · exact h k (by omega)
def NoMeet (l : List S73) (i n : Nat) : Prop := ∀ k : Nat, k < n → (rd_T73 l (k : Int)).f0 = (rd_T73 l (i : Int)).f0 → (rd_T73 l (k : Int)).f2 < (rd_T73 l (i : Int)).f1
theorem NoMeet.snoc {l : List S73} {i n : Nat} (h : NoMeet l i n) (h2 : (rd_T73 l (n : Int)).f0 = (rd_T73 l (i : Int)).f0 → (rd_T73 l (n : Int)).f2 < (rd_T73 l (i : Int)).f1) : NoMeet l i (n + 1) := fun k hk => by
  by_cases h3 : k = n
  · subst h3; exact h2
  · exact h k (by omega)

set_option maxRecDepth 100000 in
set_option maxHeartbeats 8000000 in
theorem check_any (A : Option Addr) (c : Nat) (l : List S73) (w : World) (hC : Kd.C k73 w A l.length l) (hc : l.length ≤ c) :
    Calls Try.prog 12 #[.slice A l.length c] w (RefPost l w) := by
  have hbig : l.length ≤ 9223372036854775807 := hC.2.1
  have HC := Aside0.mk hC
  clear hC
  by_cases hlong : l.length > 200
  · go_enter Try.func12, Try.ntmps12
    go_wp2
    go_ret
    exact ⟨Below.refl _ _, .inl ⟨hlong, rfl⟩⟩
  · have h200 : l.length ≤ 200 := by omega
    clear hlong
    go_enter Try.func12, Try.ntmps12
    go_wp2
    go_loopw [3] (fun v3 wr => ∃ k : Nat, k ≤ l.length ∧ v3 = .int .i64 k ∧ Aside0 (Below w.heap.size w wr ∧ AllRight l k)) (fun v3 wr => l.length - (intOf v3).toNat)
    case atStart => exact ⟨0, Nat.zero_le _, rfl, ⟨Below.refl _ _, fun k hk => by omega⟩⟩
    case round =>
      obtain ⟨k, hk, rfl, HI⟩ := hrel
      by_cases hlt : k < l.length
      · obtain ⟨ad, rfl, hx0, hx1, hx2⟩ := at_T73 (Kd.C_below HC.out HI.out.1) (k : Int) (by omega) (by omega)
        simp only [Int.toNat_natCast] at hx0 hx1 hx2
        have HW := Aside0.mk (fun h : wrongU (rd_T73 l (k : Int)) = false => AllRight.snoc HI.out.2 h)
        have HX := Aside0.mk (fun h : wrongU (rd_T73 l (k : Int)) = true => (⟨k, hlt, h⟩ : ∃ k : Nat, k < l.length ∧ wrongU (rd_T73 l (k : Int)) = true))
        generalize rd_T73 l (k : Int) = u at *
        obtain ⟨p, f, t⟩ := u
        have hcs : (p < 0 ∧ wrongU ⟨p, f, t⟩ = true) ∨ (0 ≤ p ∧ p ≥ 1024 ∧ wrongU ⟨p, f, t⟩ = true) ∨ (0 ≤ p ∧ p < 1024 ∧ outB f 1000000000 = true ∧ wrongU ⟨p, f, t⟩ = true) ∨ (0 ≤ p ∧ p < 1024 ∧ outB f 1000000000 = false ∧ outB t 1000000000 = true ∧ wrongU ⟨p, f, t⟩ = true) ∨
            (0 ≤ p ∧ p < 1024 ∧ outB f 1000000000 = false ∧ outB t 1000000000 = false ∧ f ≥ t ∧ wrongU ⟨p, f, t⟩ = true) ∨ (0 ≤ p ∧ p < 1024 ∧ outB f 1000000000 = false ∧ outB t 1000000000 = false ∧ f < t ∧ wrongU ⟨p, f, t⟩ = false) := by
          unfold wrongU
          cases outB f 1000000000 <;> cases outB t 1000000000 <;> simp <;> omega
        rcases hcs with ⟨h1, hw⟩ | ⟨h1, h2, hw⟩ | ⟨h1, h2, h3, hw⟩ | ⟨h1, h2, h3, h4, hw⟩ | ⟨h1, h2, h3, h4, h5, hw⟩ | ⟨h1, h2, h3, h4, h5, hw⟩
        · have HWR := Aside0.mk (HX.out hw)
          clear hw HX HW
          have b1 : decide (p < 0) = true := decide_eq_true h1
          go_wp2
          go_quiet (fail)
          go_wp2
          go_ret
          exact ⟨below_step HI.out.1 (pw_below_drewN (Below.refl _ _) _), .inr (.inl ⟨h200, HWR.out, rfl⟩)⟩
        · have HWR := Aside0.mk (HX.out hw)
          clear hw HX HW
          have b1 : decide (p < 0) = false := decide_eq_false (by omega)
          have b2 : decide (1024 ≤ p) = true := decide_eq_true h2
          go_wp2
          go_quiet (fail)
          go_wp2
          go_ret
          exact ⟨below_step HI.out.1 (pw_below_drewN (Below.refl _ _) _), .inr (.inl ⟨h200, HWR.out, rfl⟩)⟩
        · have HWR := Aside0.mk (HX.out hw)
          have H3 := Aside0.mk h3
          clear hw HX HW h3
          have b1 : decide (p < 0) = false := decide_eq_false (by omega)
          have b2 : decide (1024 ≤ p) = false := decide_eq_false (by omega)
          go_wp2
          go_quiet ((go_at_call 32; exact Calls.quiet_of_same (from_t f 1000000000 _ H3.out)))
          go_wp2
          go_ret
          exact ⟨below_step HI.out.1 (pw_below_drewN (Below.refl _ _) _), .inr (.inl ⟨h200, HWR.out, rfl⟩)⟩
        · have HWR := Aside0.mk (HX.out hw)
          have H3 := Aside0.mk h3
          have H4 := Aside0.mk h4
          clear hw HX HW h3 h4
          have b1 : decide (p < 0) = false := decide_eq_false (by omega)
          have b2 : decide (1024 ≤ p) = false := decide_eq_false (by omega)
          go_wp2
          go_quiet (first | (go_at_call_of 32 (Value.int IntKind.i64 f); exact Calls.quiet_of_same (from_f f 1000000000 _ H3.out)) | (go_at_call_of 32 (Value.int IntKind.i64 t); exact Calls.quiet_of_same (from_t t 1000000000 _ H4.out)))
          go_wp2
          go_ret
          exact ⟨below_step HI.out.1 (pw_below_drewN (Below.refl _ _) _), .inr (.inl ⟨h200, HWR.out, rfl⟩)⟩
        · have HWR := Aside0.mk (HX.out hw)
          have H3 := Aside0.mk h3
          have H4 := Aside0.mk h4
          clear hw HX HW h3 h4
          have b1 : decide (p < 0) = false := decide_eq_false (by omega)
          have b2 : decide (1024 ≤ p) = false := decide_eq_false (by omega)
          have b5 : decide (t ≤ f) = true := decide_eq_true h5
          go_wp2
          go_quiet (first | (go_at_call_of 32 (Value.int IntKind.i64 f); exact Calls.quiet_of_same (from_f f 1000000000 _ H3.out)) | (go_at_call_of 32 (Value.int IntKind.i64 t); exact Calls.quiet_of_same (from_f t 1000000000 _ H4.out)))
          go_wp2
          go_ret
          exact ⟨below_step HI.out.1 (pw_below_drewN (Below.refl _ _) _), .inr (.inl ⟨h200, HWR.out, rfl⟩)⟩
        · have HWR := Aside0.mk (HW.out hw)
          have H3 := Aside0.mk h3
          have H4 := Aside0.mk h4
          clear hw HX HW h3 h4
          have b1 : decide (p < 0) = false := decide_eq_false (by omega)
          have b2 : decide (1024 ≤ p) = false := decide_eq_false (by omega)
          have b5 : decide (t ≤ f) = false := decide_eq_false (by omega)
          go_wp2
          go_quiet (first | (go_at_call_of 32 (Value.int IntKind.i64 f); exact Calls.quiet_of_same (from_f f 1000000000 _ H3.out)) | (go_at_call_of 32 (Value.int IntKind.i64 t); exact Calls.quiet_of_same (from_f t 1000000000 _ H4.out)))
          go_wp2
          go_roundw
          case rel => exact ⟨k + 1, by omega, by go_num, ⟨below_step HI.out.1 (pw_below_drewN (Below.refl _ _) _), HWR.out⟩⟩
          case measure => simp [intOf]; omega
      · obtain rfl : k = l.length := by omega
        have HAR := Aside0.mk HI.out.2
        have HBI := Aside0.mk HI.out.1
        clear HI hlt
        obtain ⟨wo, hwo⟩ : ∃ wo : World, wo = wr := ⟨_, rfl⟩
        subst hwo
        go_wp2
        go_loopw [4] (fun v4 wr => ∃ k : Nat, k ≤ l.length ∧ v4 = .int .i64 k ∧ Aside0 (Below w.heap.size w wr ∧ AllOrd l k)) (fun v4 wr => l.length - (intOf v4).toNat)
        case atStart => exact ⟨0, Nat.zero_le _, rfl, ⟨HBI.out, fun k hk => by omega⟩⟩
        case round =>
          obtain ⟨i, hi, rfl, HI⟩ := hrel
          by_cases hlt : i < l.length
          · obtain ⟨ad, rfl, hx0, hx1, hx2⟩ := at_T73 (Kd.C_below HC.out HI.out.1) (i : Int) (by omega) (by omega)
            simp only [Int.toNat_natCast] at hx0 hx1 hx2
            have HN := Aside0.mk (fun (h1 : 0 < i → (rd_T73 l ((i : Int) - 1)).f1 < (rd_T73 l (i : Int)).f1 ∨ ((rd_T73 l ((i : Int) - 1)).f1 = (rd_T73 l (i : Int)).f1 ∧ (rd_T73 l ((i : Int) - 1)).f0 < (rd_T73 l (i : Int)).f0)) (h2 : NoMeet l i i) => AllOrd.snoc HI.out.2 ⟨h1, h2⟩)
            have HB1 := Aside0.mk (fun (h0 : 0 < i) (h1 : ¬ ((rd_T73 l ((i : Int) - 1)).f1 < (rd_T73 l (i : Int)).f1 ∨ ((rd_T73 l ((i : Int) - 1)).f1 = (rd_T73 l (i : Int)).f1 ∧ (rd_T73 l ((i : Int) - 1)).f0 < (rd_T73 l (i : Int)).f0))) => (⟨i, hlt, HI.out.2, fun h => h1 (h.1 h0)⟩ : ∃ i : Nat, i < l.length ∧ (∀ j : Nat, j < i → OrdAt l j) ∧ ¬ OrdAt l i))
            have HB2 := Aside0.mk (fun (k : Nat) (h0 : k < i) (h1 : (rd_T73 l (k : Int)).f0 = (rd_T73 l (i : Int)).f0) (h2 : ¬ (rd_T73 l (k : Int)).f2 < (rd_T73 l (i : Int)).f1) => (⟨i, hlt, HI.out.2, fun h => h2 (h.2 k h0 h1)⟩ : ∃ i : Nat, i < l.length ∧ (∀ j : Nat, j < i → OrdAt l j) ∧ ¬ OrdAt l i))
            have HM := Aside0.mk (fun (k : Nat) (h1 : NoMeet l i k) => NoMeet.snoc (l := l) (i := i) (n := k) h1)
            have HBw := Aside0.mk HI.out.1
            clear HI
            have hcs : (i = 0) ∨ (0 < i ∧ (rd_T73 l (i : Int)).f1 < (rd_T73 l ((i : Int) - 1)).f1) ∨ (0 < i ∧ (rd_T73 l ((i : Int) - 1)).f1 < (rd_T73 l (i : Int)).f1) ∨ (0 < i ∧ (rd_T73 l ((i : Int) - 1)).f1 = (rd_T73 l (i : Int)).f1 ∧ (rd_T73 l (i : Int)).f0 ≤ (rd_T73 l ((i : Int) - 1)).f0) ∨ (0 < i ∧ (rd_T73 l ((i : Int) - 1)).f1 = (rd_T73 l (i : Int)).f1 ∧ (rd_T73 l ((i : Int) - 1)).f0 < (rd_T73 l (i : Int)).f0) := by omega
            have hpq : 0 < i → wr.cell? (ad.add ((i - 1) * 3)) = some (.int .i64 (rd_T73 l ((i : Int) - 1)).f0) ∧ wr.cell? ⟨(ad.add ((i - 1) * 3)).block, (ad.add ((i - 1) * 3)).off + 1, none⟩ = some (.int .i64 (rd_T73 l ((i : Int) - 1)).f1) := by
              intro h0
              obtain ⟨ad', he, hy0, hy1, hy2⟩ := at_T73 (Kd.C_below HC.out HBw.out) ((i : Int) - 1) (by omega) (by omega)
              injection he with he
              subst he
              have e1 : ((i : Int) - 1).toNat = i - 1 := by omega
              rw [e1] at hy0 hy1
              exact ⟨hy0, hy1⟩
            have HPQ := Aside0.mk hpq
            clear hpq
            generalize rd_T73 l ((i : Int) - 1) = q at *
            generalize hu : rd_T73 l (i : Int) = u at *
            have HU := Aside0.mk hu
            clear hu
            obtain ⟨p, f, t⟩ := u
            obtain ⟨p', f', t'⟩ := q
            simp only at hx0 hx1 hx2 hcs
            rcases hcs with h0 | ⟨h0, h1⟩ | ⟨h0, h1⟩ | ⟨h0, h1, h2⟩ | ⟨h0, h1, h2⟩
            case inr.inl =>
              obtain ⟨hy0, hy1⟩ := HPQ.out h0
              have HH := Aside0.mk (HB1.out h0 (by simp; omega))
              have b0 : decide (0 < i) = true := decide_eq_true h0
              have b1 : decide (f < f') = true := decide_eq_true h1
              clear HN HB1 HPQ
              go_wp2
              go_quiet (fail)
              go_wp2
              go_ret
              exact ⟨below_step HBw.out (pw_below_drewN (Below.refl _ _) _), .inr (.inr (.inl ⟨h200, HAR.out, HH.out, rfl⟩))⟩
            case inr.inr.inr.inl =>
              obtain ⟨hy0, hy1⟩ := HPQ.out h0
              have HH := Aside0.mk (HB1.out h0 (by simp; omega))
              subst h1
              have b0 : decide (0 < i) = true := decide_eq_true h0
              have b2 : decide (p ≤ p') = true := decide_eq_true h2
              clear HN HB1 HPQ
              go_wp2
              go_quiet (fail)
              go_wp2
              go_ret
              exact ⟨below_step HBw.out (pw_below_drewN (Below.refl _ _) _), .inr (.inr (.inl ⟨h200, HAR.out, HH.out, rfl⟩))⟩
            case inl =>
              have HH := Aside0.mk (fun h2 => HN.out (fun h => absurd h (by omega)) h2)
              have b0 : decide (0 < i) = false := decide_eq_false (by omega)
              have H0 := Aside0.mk h0
              clear HN HB1 HPQ h0
              go_wp2
              go_quiet (fail)
              go_wp2
              clear hx0 hx1 hx2 b0
              obtain ⟨wo, hwo⟩ : ∃ wo : World, wo = wr := ⟨_, rfl⟩
              subst hwo
              go_loopw [5] (fun v5 wr => ∃ k : Nat, k ≤ i ∧ v5 = .int .i64 k ∧ Aside0 (Below w.heap.size w wr ∧ NoMeet l i k)) (fun v5 wr => i - (intOf v5).toNat)
              case atStart => exact ⟨0, Nat.zero_le _, rfl, ⟨below_step HBw.out (pw_below_drewN (Below.refl _ _) _), fun k hk => by omega⟩⟩
              case round =>
                obtain ⟨k, hk, rfl, HJ⟩ := hrel
                by_cases hlt3 : k < i
                · obtain ⟨ad2, he2, hz0, hz1, hz2⟩ := at_T73 (Kd.C_below HC.out HJ.out.1) (k : Int) (by omega) (by omega)
                  injection he2 with he2
                  subst he2
                  obtain ⟨ad3, he3, hx0, hx1, hx2⟩ := at_T73 (Kd.C_below HC.out HJ.out.1) (i : Int) (by omega) (by omega)
                  injection he3 with he3
                  subst he3
                  rw [HU.out] at hx0 hx1 hx2
                  simp only [Int.toNat_natCast] at hz0 hz1 hz2 hx0 hx1 hx2
                  have HMk := Aside0.mk (HM.out k HJ.out.2)
                  have HBk := Aside0.mk (HB2.out k hlt3)
                  have HJB := Aside0.mk HJ.out.1
                  clear HJ
                  generalize rd_T73 l (k : Int) = x at *
                  obtain ⟨px, fx, tx⟩ := x
                  simp only at hz0 hz1 hz2
                  by_cases he : px = p
                  · subst he
                    by_cases hft : f ≤ tx
                    · have HF := Aside0.mk (HBk.out rfl (by simp; omega))
                      have b5 : decide (f ≤ tx) = true := decide_eq_true hft
                      go_wp2
                      go_quiet (fail)
                      go_wp2
                      go_ret
                      exact ⟨below_step HJB.out (pw_below_drewN (Below.refl _ _) _), .inr (.inr (.inl ⟨h200, HAR.out, HF.out, rfl⟩))⟩
                    · have HF := Aside0.mk (HMk.out (fun _ => by simp; omega))
                      have b5 : decide (f ≤ tx) = false := decide_eq_false hft
                      go_wp2
                      go_quiet (fail)
                      go_wp2
                      go_roundw
                      case rel => exact ⟨k + 1, by omega, by go_num, ⟨below_step HJB.out (pw_below_drewN (Below.refl _ _) _), HF.out⟩⟩
                      case measure => simp [intOf]; omega
                  · have HF := Aside0.mk (HMk.out (fun h => absurd h he))
                    have b5 : (px == p) = false := by simpa using he
                    go_wp2
                    go_quiet (fail)
                    go_wp2
                    go_roundw
                    case rel => exact ⟨k + 1, by omega, by go_num, ⟨below_step HJB.out (pw_below_drewN (Below.refl _ _) _), HF.out⟩⟩
                    case measure => simp [intOf]; omega
                · obtain rfl : k = i := by omega
                  go_wp2
                  go_roundw
                  case rel => exact ⟨k + 1, by omega, by go_num, ⟨HJ.out.1, HH.out HJ.out.2⟩⟩
                  case measure => simp [intOf]; omega
            case inr.inr.inl =>
              obtain ⟨hy0, hy1⟩ := HPQ.out h0
              have HH := Aside0.mk (fun h2 => HN.out (fun h => Or.inl h1) h2)
              have b0 : decide (0 < i) = true := decide_eq_true h0
              have b1 : decide (f < f') = false := decide_eq_false (by omega)
              have b2 : (f == f') = false := by simp; omega
              clear HN HB1 HPQ
              go_wp2
              go_quiet (fail)
              go_wp2
              clear hx0 hx1 hx2 hy0 hy1 b0 b1 b2
              obtain ⟨wo, hwo⟩ : ∃ wo : World, wo = wr := ⟨_, rfl⟩
              subst hwo
              go_loopw [5] (fun v5 wr => ∃ k : Nat, k ≤ i ∧ v5 = .int .i64 k ∧ Aside0 (Below w.heap.size w wr ∧ NoMeet l i k)) (fun v5 wr => i - (intOf v5).toNat)
              case atStart => exact ⟨0, Nat.zero_le _, rfl, ⟨below_step HBw.out (pw_below_drewN (Below.refl _ _) _), fun k hk => by omega⟩⟩
              case round =>
                obtain ⟨k, hk, rfl, HJ⟩ := hrel
                by_cases hlt3 : k < i
                · obtain ⟨ad2, he2, hz0, hz1, hz2⟩ := at_T73 (Kd.C_below HC.out HJ.out.1) (k : Int) (by omega) (by omega)
                  injection he2 with he2
                  subst he2
                  obtain ⟨ad3, he3, hx0, hx1, hx2⟩ := at_T73 (Kd.C_below HC.out HJ.out.1) (i : Int) (by omega) (by omega)
                  injection he3 with he3
                  subst he3
                  rw [HU.out] at hx0 hx1 hx2
                  simp only [Int.toNat_natCast] at hz0 hz1 hz2 hx0 hx1 hx2
                  have HMk := Aside0.mk (HM.out k HJ.out.2)
                  have HBk := Aside0.mk (HB2.out k hlt3)
                  have HJB := Aside0.mk HJ.out.1
                  clear HJ
                  generalize rd_T73 l (k : Int) = x at *
                  obtain ⟨px, fx, tx⟩ := x
                  simp only at hz0 hz1 hz2
                  by_cases he : px = p
                  · subst he
                    by_cases hft : f ≤ tx
                    · have HF := Aside0.mk (HBk.out rfl (by simp; omega))
                      have b5 : decide (f ≤ tx) = true := decide_eq_true hft
                      go_wp2
                      go_quiet (fail)
                      go_wp2
                      go_ret
                      exact ⟨below_step HJB.out (pw_below_drewN (Below.refl _ _) _), .inr (.inr (.inl ⟨h200, HAR.out, HF.out, rfl⟩))⟩
                    · have HF := Aside0.mk (HMk.out (fun _ => by simp; omega))
                      have b5 : decide (f ≤ tx) = false := decide_eq_false hft
                      go_wp2
                      go_quiet (fail)
                      go_wp2
                      go_roundw
                      case rel => exact ⟨k + 1, by omega, by go_num, ⟨below_step HJB.out (pw_below_drewN (Below.refl _ _) _), HF.out⟩⟩
                      case measure => simp [intOf]; omega
                  · have HF := Aside0.mk (HMk.out (fun h => absurd h he))
                    have b5 : (px == p) = false := by simpa using he
                    go_wp2
                    go_quiet (fail)
                    go_wp2
                    go_roundw
                    case rel => exact ⟨k + 1, by omega, by go_num, ⟨below_step HJB.out (pw_below_drewN (Below.refl _ _) _), HF.out⟩⟩
                    case measure => simp [intOf]; omega
                · obtain rfl : k = i := by omega
                  go_wp2
                  go_roundw
                  case rel => exact ⟨k + 1, by omega, by go_num, ⟨HJ.out.1, HH.out HJ.out.2⟩⟩
                  case measure => simp [intOf]; omega
            case inr.inr.inr.inr =>
              obtain ⟨hy0, hy1⟩ := HPQ.out h0
              have HH := Aside0.mk (fun h3 => HN.out (fun h => Or.inr ⟨h1, h2⟩) h3)
              have h1' := h1.symm
              clear h1
              subst h1'
              have b0 : decide (0 < i) = true := decide_eq_true h0
              have b2 : decide (p ≤ p') = false := decide_eq_false (by omega)
              clear HN HB1 HPQ
              go_wp2
              go_quiet (fail)
              go_wp2
              clear hx0 hx1 hx2 hy0 hy1 b0 b2
              obtain ⟨wo, hwo⟩ : ∃ wo : World, wo = wr := ⟨_, rfl⟩
              subst hwo
              go_loopw [5] (fun v5 wr => ∃ k : Nat, k ≤ i ∧ v5 = .int .i64 k ∧ Aside0 (Below w.heap.size w wr ∧ NoMeet l i k)) (fun v5 wr => i - (intOf v5).toNat)
              case atStart => exact ⟨0, Nat.zero_le _, rfl, ⟨below_step HBw.out (pw_below_drewN (Below.refl _ _) _), fun k hk => by omega⟩⟩
              case round =>
                obtain ⟨k, hk, rfl, HJ⟩ := hrel
                by_cases hlt3 : k < i
                · obtain ⟨ad2, he2, hz0, hz1, hz2⟩ := at_T73 (Kd.C_below HC.out HJ.out.1) (k : Int) (by omega) (by omega)
                  injection he2 with he2
                  subst he2
                  obtain ⟨ad3, he3, hx0, hx1, hx2⟩ := at_T73 (Kd.C_below HC.out HJ.out.1) (i : Int) (by omega) (by omega)
                  injection he3 with he3
                  subst he3
                  rw [HU.out] at hx0 hx1 hx2
                  simp only [Int.toNat_natCast] at hz0 hz1 hz2 hx0 hx1 hx2
                  have HMk := Aside0.mk (HM.out k HJ.out.2)
                  have HBk := Aside0.mk (HB2.out k hlt3)
                  have HJB := Aside0.mk HJ.out.1
                  clear HJ
                  generalize rd_T73 l (k : Int) = x at *
                  obtain ⟨px, fx, tx⟩ := x
                  simp only at hz0 hz1 hz2
                  by_cases he : px = p
                  · subst he
                    by_cases hft : f ≤ tx
                    · have HF := Aside0.mk (HBk.out rfl (by simp; omega))
                      have b5 : decide (f ≤ tx) = true := decide_eq_true hft
                      go_wp2
                      go_quiet (fail)
                      go_wp2
                      go_ret
                      exact ⟨below_step HJB.out (pw_below_drewN (Below.refl _ _) _), .inr (.inr (.inl ⟨h200, HAR.out, HF.out, rfl⟩))⟩
                    · have HF := Aside0.mk (HMk.out (fun _ => by simp; omega))
                      have b5 : decide (f ≤ tx) = false := decide_eq_false hft
                      go_wp2
                      go_quiet (fail)
                      go_wp2
                      go_roundw
                      case rel => exact ⟨k + 1, by omega, by go_num, ⟨below_step HJB.out (pw_below_drewN (Below.refl _ _) _), HF.out⟩⟩
                      case measure => simp [intOf]; omega
                  · have HF := Aside0.mk (HMk.out (fun h => absurd h he))
                    have b5 : (px == p) = false := by simpa using he
                    go_wp2
                    go_quiet (fail)
                    go_wp2
                    go_roundw
                    case rel => exact ⟨k + 1, by omega, by go_num, ⟨below_step HJB.out (pw_below_drewN (Below.refl _ _) _), HF.out⟩⟩
                    case measure => simp [intOf]; omega
                · obtain rfl : k = i := by omega
                  go_wp2
                  go_roundw
                  case rel => exact ⟨k + 1, by omega, by go_num, ⟨HJ.out.1, HH.out HJ.out.2⟩⟩
                  case measure => simp [intOf]; omega
          · obtain rfl : i = l.length := by omega
            go_wp2
            go_ret
            exact ⟨HI.out.1, .inr (.inr (.inr ⟨h200, HAR.out, HI.out.2, rfl⟩))⟩
end Go.Proofs.Ytdkfmbammdmohaa.PPolicyCosts

namespace Go.Proofs.Ytdkfmbammdmohaa.PPolicyCosts
open Go.RowKit Go.Proofs.YtdkfmbammdmohaaW.PrintWords Go.Proofs.YtdkfmbammdmohaaW.PrintLast Go.Proofs.YtdkfmbammdmohaaW.PrintMore
open Go.Proofs.YtdkfmbammdmohaaM Go.Proofs.YtdkfmbammdmohaaS
set_option linter.unusedVariables false
set_option linter.unusedSimpArgs false

theorem rd73_is (l : List S73) (k : Nat) (h : k < l.length) : rd_T73 l (k : Int) = l[k] := by
  unfold rd_T73
  rw [Int.toNat_natCast, List.getD_eq_getElem?_getD, List.getElem?_eq_getElem h]
  rfl
theorem rd73_old (l : List S73) (u : S73) (k : Nat) (h : k < l.length) : rd_T73 (l ++ [u]) (k : Int) = rd_T73 l (k : Int) := by
  rw [rd73_is _ _ (by simp; omega), rd73_is _ _ h, List.getElem_append_left h]
theorem rd73_new (l : List S73) (u : S73) : rd_T73 (l ++ [u]) (l.length : Int) = u := by
  rw [rd73_is _ _ (by simp)]
  simp
def InvA (l : List S73) : Prop := ∀ k : Nat, k < l.length → ∃ t, lastOf l (rd_T73 l (k : Int)).f0 = some t ∧ (rd_T73 l (k : Int)).f2 ≤ t
def InvB (l : List S73) : Prop := ∀ p t, lastOf l p = some t → ∃ k : Nat, k < l.length ∧ (rd_T73 l (k : Int)).f0 = p ∧ (rd_T73 l (k : Int)).f2 = t
theorem inv_b (l : List S73) : InvB l := by
  refine snoc_ind (P := InvB) ?_ ?_ l
  · intro p t h; simp [lastOf] at h
  · intro l u ih p t h
    rw [lastOf_snoc] at h
    by_cases hp : u.f0 = p
    · rw [if_pos hp] at h
      injection h with h
      exact ⟨l.length, by simp, by rw [rd73_new]; exact hp, by rw [rd73_new]; exact h⟩
    · rw [if_neg hp] at h
      obtain ⟨k, hk, h1, h2⟩ := ih p t h
      exact ⟨k, by simp; omega, by rw [rd73_old l u k hk]; exact h1, by rw [rd73_old l u k hk]; exact h2⟩
theorem ordAt_old (l : List S73) (u : S73) (i : Nat) (h : i < l.length) : OrdAt (l ++ [u]) i ↔ OrdAt l i := by
  unfold OrdAt
  rw [rd73_old l u i h]
  have e : 0 < i → rd_T73 (l ++ [u]) ((i : Int) - 1) = rd_T73 l ((i : Int) - 1) := by
    intro h0
    have e1 : ((i : Int) - 1) = ((i - 1 : Nat) : Int) := by omega
    rw [e1, rd73_old l u _ (by omega)]
  constructor
  · rintro ⟨a, b⟩
    refine ⟨fun h0 => ?_, fun k hk => ?_⟩
    · have := a h0; rw [e h0] at this; exact this
    · have := b k hk; rw [rd73_old l u k (by omega)] at this; exact this
  · rintro ⟨a, b⟩
    refine ⟨fun h0 => ?_, fun k hk => ?_⟩
    · rw [e h0]; exact a h0
    · rw [rd73_old l u k (by omega)]; exact b k hk
theorem ordAt_new (l : List S73) (u : S73) (hA : InvA l) : OrdAt (l ++ [u]) l.length ↔ okAt l u = true := by
  have hB := inv_b l
  unfold OrdAt okAt
  rw [rd73_new, Bool.and_eq_true]
  have h1 : (0 < l.length → (rd_T73 (l ++ [u]) ((l.length : Int) - 1)).f1 < u.f1 ∨ ((rd_T73 (l ++ [u]) ((l.length : Int) - 1)).f1 = u.f1 ∧ (rd_T73 (l ++ [u]) ((l.length : Int) - 1)).f0 < u.f0)) ↔ (match l.getLast? with | some a => after a u | none => true) = true := by
    rcases Nat.eq_zero_or_pos l.length with h0 | h0
    · obtain rfl := List.eq_nil_of_length_eq_zero h0
      simp
    · have e1 : ((l.length : Int) - 1) = ((l.length - 1 : Nat) : Int) := by omega
      rw [e1, rd73_old l u _ (by omega), rd73_is l _ (by omega), List.getLast?_eq_getElem?, List.getElem?_eq_getElem (by omega)]
      simp [after, h0]
  have h2 : (∀ k : Nat, k < l.length → (rd_T73 (l ++ [u]) (k : Int)).f0 = u.f0 → (rd_T73 (l ++ [u]) (k : Int)).f2 < u.f1) ↔ (match lastOf l u.f0 with | some t => decide (t < u.f1) | none => true) = true := by
    cases hlo : lastOf l u.f0 with
    | none =>
      simp only [iff_true]
      intro k hk h
      rw [rd73_old l u k hk] at h ⊢
      obtain ⟨t, ht, _⟩ := hA k hk
      rw [h, hlo] at ht
      cases ht
    | some t =>
      simp only [decide_eq_true_eq]
      constructor
      · intro h
        obtain ⟨k, hk, e1, e2⟩ := hB _ _ hlo
        have := h k hk (by rw [rd73_old l u k hk]; exact e1)
        rw [rd73_old l u k hk, e2] at this
        exact this
      · intro h k hk h3
        rw [rd73_old l u k hk] at h3 ⊢
        obtain ⟨t', ht, hle⟩ := hA k hk
        rw [h3, hlo] at ht
        injection ht with ht
        omega
  exact and_congr h1 h2
theorem ord_both (l : List S73) : l.any wrongU = false → ((okTrace l = true ↔ ∀ i : Nat, i < l.length → OrdAt l i) ∧ (okTrace l = true → InvA l)) := by
  refine snoc_ind (P := fun l => l.any wrongU = false → ((okTrace l = true ↔ ∀ i : Nat, i < l.length → OrdAt l i) ∧ (okTrace l = true → InvA l))) ?_ ?_ l
  · intro _
    exact ⟨⟨fun _ i hi => by simp at hi, fun _ => rfl⟩, fun _ k hk => by simp at hk⟩
  · intro l u ih ha
    rw [List.any_append, Bool.or_eq_false_iff] at ha
    obtain ⟨i1, i2⟩ := ih ha.1
    have hu := right_bd (u := u) (by simpa using ha.2)
    rw [okTrace_snoc, Bool.and_eq_true]
    constructor
    · constructor
      · rintro ⟨h1, h2⟩ i hi
        by_cases hl : i < l.length
        · exact (ordAt_old l u i hl).2 (i1.1 h1 i hl)
        · have : i = l.length := by simp at hi; omega
          subst this
          exact (ordAt_new l u (i2 h1)).2 h2
      · intro h
        have h1 : okTrace l = true := i1.2 (fun i hi => (ordAt_old l u i hi).1 (h i (by simp; omega)))
        exact ⟨h1, (ordAt_new l u (i2 h1)).1 (h l.length (by simp))⟩
    · rintro ⟨h1, h2⟩ k hk
      by_cases hl : k < l.length
      · rw [rd73_old l u k hl, lastOf_snoc]
        obtain ⟨t, ht, hle⟩ := i2 h1 k hl
        by_cases hp : u.f0 = (rd_T73 l (k : Int)).f0
        · rw [if_pos hp]
          refine ⟨_, rfl, ?_⟩
          unfold okAt at h2
          rw [hp, ht, Bool.and_eq_true] at h2
          have := h2.2
          simp only [decide_eq_true_eq] at this
          omega
        · rw [if_neg hp]
          exact ⟨t, ht, hle⟩
      · have : k = l.length := by simp at hk; omega
        subst this
        rw [rd73_new, lastOf_snoc, if_pos rfl]
        exact ⟨_, rfl, Int.le_refl _⟩
theorem any_wrong (l : List S73) : (∀ k : Nat, k < l.length → wrongU (rd_T73 l (k : Int)) = false) ↔ l.any wrongU = false := by
  rw [List.any_eq_false]
  constructor
  · intro h x hx
    obtain ⟨k, hk, rfl⟩ := List.getElem_of_mem hx
    have := h k hk
    rw [rd73_is l k hk] at this
    simp [this]
  · intro h k hk
    rw [rd73_is l k hk]
    have := h l[k] (List.getElem_mem hk)
    simpa using this
/-- The reference's Check says what open says. -/
theorem check_is (A : Option Addr) (c : Nat) (l : List S73) (w : World) (hC : Kd.C k73 w A l.length l) (hc : l.length ≤ c) :
    Calls Try.prog 12 #[.slice A l.length c] w fun e w' => e = .returned (.int .i64 (chk l)) ∧ Below w.heap.size w w' :=
  (check_any A c l w hC hc).mono fun e w' h => by
    obtain ⟨hb, h1 | h1 | h1 | h1⟩ := h
    · obtain ⟨h1, rfl⟩ := h1
      refine ⟨?_, hb⟩
      unfold chk
      rw [if_pos h1]
    · obtain ⟨h1, ⟨k, hk, h2⟩, rfl⟩ := h1
      refine ⟨?_, hb⟩
      unfold chk
      have : l.any wrongU = true := by
        rw [List.any_eq_true]
        rw [rd73_is l k hk] at h2
        exact ⟨_, List.getElem_mem hk, h2⟩
      rw [if_neg (by omega), if_pos this]
    · obtain ⟨h1, h2, ⟨i, hi, _, h3⟩, rfl⟩ := h1
      refine ⟨?_, hb⟩
      have ha := (any_wrong l).1 h2
      have ho := (ord_both l ha).1
      unfold chk
      rw [if_neg (by omega), if_neg (by rw [ha]; decide), if_neg (fun h => h3 (ho.1 h i hi))]
    · obtain ⟨h1, h2, h3, rfl⟩ := h1
      refine ⟨?_, hb⟩
      have ha := (any_wrong l).1 h2
      have ho := (ord_both l ha).1
      unfold chk
      rw [if_neg (by omega), if_neg (by rw [ha]; decide), if_pos (ho.2 h3)]
end Go.Proofs.Ytdkfmbammdmohaa.PPolicyCosts

/- The bits of a set: one more, and those that are in no other set. -/
import Derived.Test.YtdkfmbammdmohaaY4
namespace Go.Proofs.Ytdkfmbammdmohaa.PPolicyCosts
open Go.RowKit Go.Proofs.YtdkfmbammdmohaaW.PrintWords Go.Proofs.YtdkfmbammdmohaaW.PrintLast Go.Proofs.YtdkfmbammdmohaaW.PrintMore
open Go.Proofs.YtdkfmbammdmohaaM Go.Proofs.YtdkfmbammdmohaaS
set_option linter.unusedVariables false
set_option linter.unusedSimpArgs false

theorem or_add (x : Int) (k : Nat) (x0 : 0 ≤ x) (x1 : x < 2 ^ k) (hk : k ≤ 60) : Go.bits .or .i64 x (2 ^ k) = x + 2 ^ k := by
  obtain ⟨a, rfl⟩ := Int.eq_ofNat_of_zero_le x0
  have ha : a < 2 ^ k := by exact_mod_cast x1
  have h63 : 2 ^ k < 2 ^ 63 := Nat.pow_lt_pow_right (by decide) (by omega)
  have hc : ((2 : Int) ^ k) = ((2 ^ k : Nat) : Int) := by simp
  have h1 := (bits_nat .i64 63 (by decide) wraps_i64 a (2 ^ k) (by omega) h63).2
  have h2 := Nat.two_pow_add_eq_or_of_lt ha 1
  rw [Nat.mul_one, Nat.or_comm] at h2
  rw [hc, h1, ← h2]
  omega
theorem bitsN_or (p : Nat → Bool) (i : Nat) (hi : i ≤ 60) : Go.bits .or .i64 (bitsN p i) (2 ^ i) = bitsN p i + 2 ^ i := or_add _ i (bitsN_bd p i).1 (bitsN_bd p i).2 hi
theorem bitB_test (a i : Nat) : bitB (a : Int) i = a.testBit i := by
  rw [Nat.testBit_eq_decide_div_mod_eq]
  unfold bitB
  have : ((a : Int) / 2 ^ i % 2) = ((a / 2 ^ i % 2 : Nat) : Int) := by simp
  rw [this]
  rw [Bool.eq_iff_iff]
  simp
  omega
theorem andNot_nil (x y : Int) (x0 : 0 ≤ x) (x1 : x < 256) (y0 : 0 ≤ y) (y1 : y < 256) : (Go.bits .andNot .i64 x y = 0) ↔ ∀ i, bitB x i = true → bitB y i = true := by
  obtain ⟨a, rfl⟩ := Int.eq_ofNat_of_zero_le x0
  obtain ⟨b, rfl⟩ := Int.eq_ofNat_of_zero_le y0
  have hle : a &&& (2 ^ 64 - 1 - b) ≤ a := Nat.and_le_left
  have e0 : Go.bits .andNot .i64 (a : Int) (b : Int) = ((a &&& (2 ^ 64 - 1 - b) : Nat) : Int) := by
    show IntKind.i64.wrap ((BitVec.ofInt 64 (a : Int) &&& ~~~BitVec.ofInt 64 (b : Int)).toNat : Int) = _
    rw [BitVec.toNat_and, BitVec.toNat_not, BitVec.ofInt_natCast, BitVec.ofInt_natCast, BitVec.toNat_ofNat, BitVec.toNat_ofNat, Nat.mod_eq_of_lt (show a < 2 ^ 64 by omega), Nat.mod_eq_of_lt (show b < 2 ^ 64 by omega)]
    exact wraps_i64 _ (by omega) (by omega)
  rw [e0]
  have e1 : 2 ^ 64 - 1 - b = 2 ^ 64 - (b + 1) := by omega
  rw [e1]
  have ht : ∀ i, (a &&& (2 ^ 64 - (b + 1))).testBit i = (a.testBit i && (decide (i < 64) && !b.testBit i)) := by
    intro i
    rw [Nat.testBit_and, Nat.testBit_two_pow_sub_succ (show b < 2 ^ 64 by omega)]
  constructor
  · intro h i hi
    have h0 : a &&& (2 ^ 64 - (b + 1)) = 0 := by omega
    have := ht i
    rw [h0, Nat.zero_testBit, ← bitB_test, hi, ← bitB_test] at this
    have hi64 : i < 64 := by
      by_cases h64 : i < 64
      · exact h64
      · rw [bitB_far (a : Int) 8 i (by omega) (by omega) (by omega)] at hi
        cases hi
    simp [hi64] at this
    exact this
  · intro h
    have h0 : a &&& (2 ^ 64 - (b + 1)) = 0 := by
      refine Nat.eq_of_testBit_eq (fun i => ?_)
      rw [ht, Nat.zero_testBit]
      have := h i
      rw [bitB_test, bitB_test] at this
      cases h1 : a.testBit i with
      | false => rfl
      | true => rw [this h1]; simp
    omega
end Go.Proofs.Ytdkfmbammdmohaa.PPolicyCosts

namespace Go.Proofs.Ytdkfmbammdmohaa.PPolicyCosts
open Go.RowKit Go.Proofs.YtdkfmbammdmohaaW.PrintWords Go.Proofs.YtdkfmbammdmohaaW.PrintLast Go.Proofs.YtdkfmbammdmohaaW.PrintMore
open Go.Proofs.YtdkfmbammdmohaaM Go.Proofs.YtdkfmbammdmohaaS
set_option linter.unusedVariables false
set_option linter.unusedSimpArgs false

theorem sub_one {l : List Int} {a : Int} (h : l.Sublist [a]) : l = [] ∨ l = [a] := by
  cases h with
  | cons _ h => exact .inl (List.sublist_nil.1 h)
  | cons_cons _ h => exact .inr (by rw [List.sublist_nil.1 h])
/-! The order of lists. -/
theorem lexL_trans : ∀ a b c : List Int, lexL a b = true → lexL b c = true → lexL a c = true
  | [], [], _, h, _ => by simp [lexL] at h
  | [], _ :: _, [], _, h => by simp [lexL] at h
  | [], _ :: _, _ :: _, _, _ => by simp [lexL]
  | _ :: _, [], _, h, _ => by simp [lexL] at h
  | _ :: _, _ :: _, [], _, h => by simp [lexL] at h
  | a :: xs, b :: ys, c :: zs, h1, h2 => by
    have ih := lexL_trans xs ys zs
    by_cases e1 : a = b
    · by_cases e2 : b = c
      · subst e1 e2
        simp [lexL] at h1 h2 ⊢
        exact ih h1 h2
      · subst e1
        simp [lexL, e2] at h2 ⊢
        exact h2
    · by_cases e2 : b = c
      · subst e2
        simp [lexL, e1] at h1 ⊢
        exact h1
      · simp [lexL, e1, e2] at h1 h2
        have e3 : ¬ a = c := by omega
        simp [lexL, e3]
        omega
theorem lexL_total : ∀ a b : List Int, lexL a b = false → lexL b a = false → a = b
  | [], [], _, _ => rfl
  | [], _ :: _, h, _ => by simp [lexL] at h
  | _ :: _, [], _, h => by simp [lexL] at h
  | a :: xs, b :: ys, h1, h2 => by
    by_cases e1 : a = b
    · subst e1
      simp [lexL] at h1 h2
      rw [lexL_total xs ys h1 h2]
    · have e2 : ¬ b = a := fun h => e1 h.symm
      simp [lexL, e1, e2] at h1 h2
      omega
theorem lexC_is : ∀ a b : List Int, lexC a b < 0 ↔ lexL a b = true
  | [], [] => by simp [lexC, lexL]
  | [], _ :: _ => by simp [lexC, lexL]
  | _ :: _, [] => by simp [lexC, lexL]
  | a :: xs, b :: ys => by
    have ih := lexC_is xs ys
    by_cases e1 : a = b
    · subst e1
      have : cmpI a a = 0 := by simp [cmpI]
      simp [lexC, lexL, this, ih]
    · by_cases h : a < b
      · have : cmpI a b = -1 := by simp [cmpI, h]
        simp [lexC, lexL, this, e1, h]
      · have : cmpI a b = 1 := by simp [cmpI, h]; omega
        simp [lexC, lexL, this, e1, h]

/-! The best of a row of candidates. -/
def betC (x y : Int × List Int) : Prop := y.1 < x.1 ∨ (x.1 = y.1 ∧ lexL x.2 y.2 = true)
def ScanOk (A : Nat → Prop) (c : Nat → Int × List Int) (S : Nat) : Option (Int × List Int) → Prop
  | none => ∀ s, s < S → ¬ A s
  | some b => (∃ s, s < S ∧ A s ∧ c s = b) ∧ ∀ s, s < S → A s → ¬ betC (c s) b
def newB (x : Int × List Int) : Option (Int × List Int) → Prop
  | none => True
  | some b => betC x b
theorem scan_yes {A : Nat → Prop} {c : Nat → Int × List Int} {S : Nat} {o : Option (Int × List Int)} (h : ScanOk A c S o) (ha : A S) (hn : newB (c S) o) : ScanOk A c (S + 1) (some (c S)) := by
  refine ⟨⟨S, by omega, ha, rfl⟩, fun s hs hA hb => ?_⟩
  by_cases he : s = S
  · subst he
    unfold betC at hb
    rw [lexL_irrefl] at hb
    simp at hb
  · cases o with
    | none => exact h s (by omega) hA
    | some b =>
      have h1 := h.2 s (by omega) hA
      have hn : betC (c S) b := hn
      unfold betC at *
      rcases hb with hb | ⟨hb, hl⟩
      · rcases hn with hn | ⟨hn, hl2⟩
        · exact h1 (.inl (by omega))
        · exact h1 (.inl (by omega))
      · rcases hn with hn | ⟨hn, hl2⟩
        · exact h1 (.inl (by omega))
        · exact h1 (.inr ⟨by omega, lexL_trans _ _ _ hl hl2⟩)
theorem scan_no {A : Nat → Prop} {c : Nat → Int × List Int} {S : Nat} {o : Option (Int × List Int)} (h : ScanOk A c S o) (hn : ¬ (A S ∧ newB (c S) o)) : ScanOk A c (S + 1) o := by
  cases o with
  | none =>
    intro s hs hA
    by_cases he : s = S
    · subst he; exact hn ⟨hA, trivial⟩
    · exact h s (by omega) hA
  | some b =>
    obtain ⟨⟨s0, h1, h2, h3⟩, h4⟩ := h
    refine ⟨⟨s0, by omega, h2, h3⟩, fun s hs hA hb => ?_⟩
    by_cases he : s = S
    · subst he; exact hn ⟨hA, hb⟩
    · exact h4 s (by omega) hA hb
theorem scan_same {A A' : Nat → Prop} {c c' : Nat → Int × List Int} {S S' : Nat} {x : Int × List Int} {o : Option (Int × List Int)} (h : ScanOk A c S (some x)) (h' : ScanOk A' c' S' o)
    (f1 : ∀ s, s < S → A s → ∃ s', s' < S' ∧ A' s' ∧ c' s' = c s) (f2 : ∀ s', s' < S' → A' s' → ∃ s, s < S ∧ A s ∧ c s = c' s') : o = some x := by
  obtain ⟨⟨s, h1, h2, rfl⟩, h4⟩ := h
  obtain ⟨s1, a1, a2, a3⟩ := f1 s h1 h2
  cases o with
  | none => exact absurd a2 (h' s1 a1)
  | some y =>
    obtain ⟨⟨s2, b1, b2, rfl⟩, b4⟩ := h'
    obtain ⟨s3, c1, c2, c3⟩ := f2 s2 b1 b2
    have n1 := h4 s3 c1 c2
    have n2 := b4 s1 a1 a2
    rw [c3] at n1
    rw [a3] at n2
    unfold betC at n1 n2
    have he : (c s).1 = (c' s2).1 := by omega
    have e1 : lexL (c s).2 (c' s2).2 = false := by
      cases hh : lexL (c s).2 (c' s2).2 with
      | false => rfl
      | true => exact absurd (.inr ⟨he, hh⟩) n2
    have e2 : lexL (c' s2).2 (c s).2 = false := by
      cases hh : lexL (c' s2).2 (c s).2 with
      | false => rfl
      | true => exact absurd (.inr ⟨he.symm, hh⟩) n1
    rw [Prod.ext he (lexL_total _ _ e1 e2)]

/-! The sets that the package tries. -/
/-- what some gaps save -/
def valL (hold win : Int) (gs : List S52) (L : List Int) : Int := (L.map fun j => savW hold win (rd_T52 gs j)).sum
theorem valL_snoc (hold win : Int) (gs : List S52) (L : List Int) (j : Int) : valL hold win gs (L ++ [j]) = valL hold win gs L + savW hold win (rd_T52 gs j) := by simp [valL]
section
variable {hold win : Int} {gs : List S52} {ws : List Int}
theorem pick_is (hW : ∀ x ∈ ws, 0 ≤ savW hold win (rd_T52 gs x) ∧ savW hold win (rd_T52 gs x) ≤ 40) (hl : ws.length ≤ 60) (s : Int) : ∀ k, k ≤ ws.length →
    (pickR hold win gs ws s k).1 = valL hold win gs (pickR hold win gs ws s k).2 ∧ (pickR hold win gs ws s k).2.Sublist (ws.take k) ∧ 0 ≤ (pickR hold win gs ws s k).1 ∧ (pickR hold win gs ws s k).1 ≤ 40 * k
  | 0, _ => by simp [pickR, valL]
  | k + 1, hk => by
    obtain ⟨h1, h2, h3, h4⟩ := pick_is hW hl s k (by omega)
    have ht : ws.take (k + 1) = ws.take k ++ [rd ws (k : Int)] := by rw [rdI_is ws k (by omega), List.take_succ_eq_append_getElem (by omega)]
    have hm := hW (rd ws (k : Int)) (by rw [rdI_is ws k (by omega)]; exact List.getElem_mem _)
    rw [pickR_succ]
    by_cases hb : bitB s k = true
    · rw [if_pos hb]
      have hw : wrap64 ((pickR hold win gs ws s k).1 + savW hold win (rd_T52 gs (rd ws (k : Int)))) = (pickR hold win gs ws s k).1 + savW hold win (rd_T52 gs (rd ws (k : Int))) := by unfold wrap64; omega
      simp only [hw]
      rw [ht, valL_snoc, ← h1]
      refine ⟨rfl, h2.append (List.Sublist.refl _), by omega, by omega⟩
    · rw [if_neg hb, ht]
      exact ⟨h1, h2.trans (List.sublist_append_left _ _), h3, by omega⟩
theorem pick_congr {s s' : Int} : ∀ k, (∀ i, i < k → bitB s i = bitB s' i) → pickR hold win gs ws s k = pickR hold win gs ws s' k
  | 0, _ => rfl
  | k + 1, h => by rw [pickR_succ, pickR_succ, pick_congr k (fun i hi => h i (by omega)), h k (by omega)]
theorem pick_onto : ∀ k, k ≤ ws.length → ∀ L : List Int, L.Sublist (ws.take k) → ∃ s : Int, 0 ≤ s ∧ s < 2 ^ k ∧ (pickR hold win gs ws s k).2 = L
  | 0, _, L, h => ⟨0, by omega, by decide, by simp at h; rw [h]; rfl⟩
  | k + 1, hk, L, h => by
    have ht : ws.take (k + 1) = ws.take k ++ [rd ws (k : Int)] := by rw [rdI_is ws k (by omega), List.take_succ_eq_append_getElem (by omega)]
    rw [ht, List.sublist_append_iff] at h
    obtain ⟨L1, L2, rfl, h1, h2⟩ := h
    obtain ⟨s, s0, s1, hs⟩ := pick_onto k (by omega) L1 h1
    have h2k := two_pos k
    have hp : (2 : Int) ^ (k + 1) = 2 ^ k * 2 := Int.pow_succ _ _
    rcases sub_one h2 with rfl | rfl
    · refine ⟨s, s0, by omega, ?_⟩
      rw [pickR_succ, bitB_far s k k s0 s1 (Nat.le_refl _), if_neg (by decide), hs, List.append_nil]
    · refine ⟨s + 2 ^ k, by omega, by omega, ?_⟩
      have hk1 : bitB (s + 2 ^ k) k = true := by rw [bitB_add s k k s0 s1 (Nat.le_refl _), if_pos rfl]
      have hc : pickR hold win gs ws (s + 2 ^ k) k = pickR hold win gs ws s k := pick_congr k (fun i hi => by rw [bitB_add s k i s0 s1 (by omega), if_neg (by omega)])
      rw [pickR_succ, hk1, if_pos rfl, hc, hs]
end
theorem worth_filter (hold win : Int) (gs : List S52) : ∀ k, worthR hold win gs k = ((List.range k).filter (fun i : Nat => decide (0 < savW hold win (rd_T52 gs (i : Int))))).map Int.ofNat
  | 0 => rfl
  | k + 1 => by
    rw [worthR_succ, worth_filter hold win gs k, List.range_succ, List.filter_append, List.map_append]
    by_cases h : 0 < savW hold win (rd_T52 gs (k : Int))
    · rw [if_pos h]; simp [h]
    · rw [if_neg h]; simp [h]
/-- bits that are worth it are a sublist of what is worth it -/
theorem lst_sub (hold win : Int) (gs : List S52) (b : Int) (k : Nat) (h : ∀ i, i < k → bitB b i = true → 0 < savW hold win (rd_T52 gs (i : Int))) : (lstU b k).Sublist (worthR hold win gs k) := by
  rw [worth_filter]
  unfold lstU
  refine List.Sublist.map _ ?_
  have : (List.range k).filter (bitB b) = ((List.range k).filter (fun i : Nat => decide (0 < savW hold win (rd_T52 gs (i : Int))))).filter (bitB b) := by
    rw [List.filter_filter]
    refine List.filter_congr (fun x hx => ?_)
    have hx := h x (List.mem_range.1 hx)
    cases hb : bitB b x with
    | false => rfl
    | true => simp [hx hb]
  rw [this]
  exact List.filter_sublist
theorem lst_congr {b b' : Int} : ∀ k, (∀ i, i < k → bitB b i = bitB b' i) → lstU b k = lstU b' k
  | 0, _ => rfl
  | k + 1, h => by rw [lstU_succ, lstU_succ, lst_congr k (fun i hi => h i (by omega)), h k (by omega)]
theorem lst_onto (hold win : Int) (gs : List S52) : ∀ k, ∀ L : List Int, L.Sublist (worthR hold win gs k) → ∃ b : Int, 0 ≤ b ∧ b < 2 ^ k ∧ lstU b k = L ∧ ∀ i, bitB b i = true → i < k ∧ 0 < savW hold win (rd_T52 gs (i : Int))
  | 0, L, h => ⟨0, by omega, by decide, by simp [worthR] at h; rw [h]; rfl, fun i hi => by rw [bitB_far 0 0 i (by omega) (by decide) (by omega)] at hi; cases hi⟩
  | k + 1, L, h => by
    have h2k := two_pos k
    have hp : (2 : Int) ^ (k + 1) = 2 ^ k * 2 := Int.pow_succ _ _
    have base : ∀ L1 : List Int, L1.Sublist (worthR hold win gs k) → ∃ b : Int, 0 ≤ b ∧ b < 2 ^ (k + 1) ∧ lstU b (k + 1) = L1 ∧ ∀ i, bitB b i = true → i < k + 1 ∧ 0 < savW hold win (rd_T52 gs (i : Int)) := by
      intro L1 h1
      obtain ⟨b, b0, b1, hb, hbb⟩ := lst_onto hold win gs k L1 h1
      refine ⟨b, b0, by omega, ?_, fun i hi => by have := hbb i hi; exact ⟨by omega, this.2⟩⟩
      rw [lstU_succ, bitB_far b k k b0 b1 (Nat.le_refl _), if_neg (by decide), hb]
    rw [worthR_succ] at h
    by_cases hs : 0 < savW hold win (rd_T52 gs (k : Int))
    · rw [if_pos hs, List.sublist_append_iff] at h
      obtain ⟨L1, L2, rfl, h1, h2⟩ := h
      rcases sub_one h2 with rfl | rfl
      · rw [List.append_nil]; exact base L1 h1
      · obtain ⟨b, b0, b1, hb, hbb⟩ := lst_onto hold win gs k L1 h1
        refine ⟨b + 2 ^ k, by omega, by omega, ?_, fun i hi => ?_⟩
        · have hk1 : bitB (b + 2 ^ k) k = true := by rw [bitB_add b k k b0 b1 (Nat.le_refl _), if_pos rfl]
          have hc : lstU (b + 2 ^ k) k = lstU b k := lst_congr k (fun i hi => by rw [bitB_add b k i b0 b1 (by omega), if_neg (by omega)])
          rw [lstU_succ, hk1, if_pos rfl, hc, hb]
        · by_cases hik : i ≤ k
          · rw [bitB_add b k i b0 b1 hik] at hi
            by_cases he : i = k
            · subst he; exact ⟨by omega, hs⟩
            · rw [if_neg he] at hi
              have := hbb i hi
              exact ⟨by omega, this.2⟩
          · rw [bitB_far (b + 2 ^ k) (k + 1) i (by omega) (by omega) (by omega)] at hi
            cases hi
    · rw [if_neg hs] at h
      exact base L h
end Go.Proofs.Ytdkfmbammdmohaa.PPolicyCosts

namespace Go.Proofs.Ytdkfmbammdmohaa.PPolicyCosts
open Go.RowKit Go.Proofs.YtdkfmbammdmohaaW.PrintWords Go.Proofs.YtdkfmbammdmohaaW.PrintLast Go.Proofs.YtdkfmbammdmohaaW.PrintMore
open Go.Proofs.YtdkfmbammdmohaaM Go.Proofs.YtdkfmbammdmohaaS
set_option linter.unusedVariables false
set_option linter.unusedSimpArgs false

theorem mostN_le {g : List S52} {b n : Int} (n0 : 0 ≤ n) : ∀ k, mostN g b k ≤ n ↔ ∀ a, a < k → bitB b a = true → (manyN g b a g.length : Int) ≤ n
  | 0 => by simp [mostN]; omega
  | k + 1 => by
    have ih := mostN_le (g := g) (b := b) n0 k
    rw [mostN]
    by_cases hb : bitB b k = true
    · rw [if_pos hb]
      have hm : mx (mostN g b k) (manyN g b k g.length) ≤ n ↔ mostN g b k ≤ n ∧ (manyN g b k g.length : Int) ≤ n := by unfold mx; split <;> omega
      rw [hm, ih]
      constructor
      · rintro ⟨h1, h2⟩ a ha hba
        by_cases he : a = k
        · subst he; exact h2
        · exact h1 a (by omega) hba
      · intro h
        exact ⟨fun a ha => h a (by omega), h k (by omega) hb⟩
    · rw [if_neg hb, ih]
      constructor
      · intro h a ha hba
        by_cases he : a = k
        · subst he; exact absurd hba hb
        · exact h a (by omega) hba
      · intro h a ha
        exact h a (by omega)
theorem manyN_count (g : List S52) (b : Int) (a : Nat) : ∀ k, manyN g b a k = ((List.range k).filter (fun j : Nat => bitB b j && (decide ((rd_T52 g (j : Int)).f1 ≤ (rd_T52 g (a : Int)).f1) && decide ((rd_T52 g (a : Int)).f1 < (rd_T52 g (j : Int)).f2)))).length
  | 0 => rfl
  | k + 1 => by
    rw [manyN, manyN_count g b a k, List.range_succ, List.filter_append, List.length_append]
    by_cases h : bitB b k = true ∧ (rd_T52 g (k : Int)).f1 ≤ (rd_T52 g (a : Int)).f1 ∧ (rd_T52 g (a : Int)).f1 < (rd_T52 g (k : Int)).f2
    · rw [if_pos h]; simp [h.1, h.2.1, h.2.2]
    · rw [if_neg h]
      have : (bitB b k && (decide ((rd_T52 g (k : Int)).f1 ≤ (rd_T52 g (a : Int)).f1) && decide ((rd_T52 g (a : Int)).f1 < (rd_T52 g (k : Int)).f2))) = false := by
        rw [Bool.eq_false_iff]
        intro h2
        simp at h2
        exact h ⟨h2.1, h2.2.1, h2.2.2⟩
      simp [this]
/-- how many of the set, up to one of them, end behind its beginning -/
def upN (g : List S52) (b : Int) (len a : Nat) : Nat := ((List.range len).filter (fun j : Nat => bitB b j && (decide (j ≤ a) && decide ((rd_T52 g (a : Int)).f1 < (rd_T52 g (j : Int)).f2)))).length
theorem take_le {R : List Nat} (h : R.Pairwise (· < ·)) (i : Nat) (hi : i < R.length) : R.take (i + 1) = R.filter (fun j => decide (j ≤ R[i])) := by
  have hp := List.pairwise_iff_getElem.1 h
  have h1 : (R.take (i + 1)).filter (fun j => decide (j ≤ R[i])) = R.take (i + 1) := by
    rw [List.filter_eq_self]
    intro x hx
    obtain ⟨k, hk, rfl⟩ := List.mem_take_iff_getElem.1 hx
    by_cases he : k = i
    · subst he; simp
    · have := hp k i (by omega) hi (by omega)
      simp; omega
  have h2 : (R.drop (i + 1)).filter (fun j => decide (j ≤ R[i])) = [] := by
    rw [List.filter_eq_nil_iff]
    intro x hx
    obtain ⟨k, hk, rfl⟩ := List.mem_drop_iff_getElem.1 hx
    have := hp i (i + 1 + k) hi (by omega) (by omega)
    simp; omega
  have h3 : R.filter (fun j => decide (j ≤ R[i])) = (R.take (i + 1) ++ R.drop (i + 1)).filter (fun j => decide (j ≤ R[i])) := by rw [List.take_append_drop]
  rw [h3, List.filter_append, h1, h2, List.append_nil]
theorem cnt_map (g : List S52) (t : Int) (X : List Nat) : cntF g t (X.map Int.ofNat) = (X.filter (fun j : Nat => decide (t < (rd_T52 g (j : Int)).f2))).length := by
  unfold cntF
  rw [List.filter_map, List.length_map]
  rfl
theorem fit_bits {g : List S52} {b n : Int} : FitP g (lstU b g.length) n ↔ ∀ a, a < g.length → bitB b a = true → (upN g b g.length a : Int) ≤ n := by
  have hs : ((List.range g.length).filter (bitB b)).Pairwise (· < ·) := List.Pairwise.sublist List.filter_sublist List.pairwise_lt_range
  obtain ⟨R, hR⟩ : ∃ R, (List.range g.length).filter (bitB b) = R := ⟨_, rfl⟩
  have hL : lstU b g.length = R.map Int.ofNat := by rw [← hR]; rfl
  have hmem : ∀ a, a ∈ R ↔ a < g.length ∧ bitB b a = true := by intro a; rw [← hR, List.mem_filter, List.mem_range]
  rw [hR] at hs
  have key : ∀ i (hi : i < R.length), cntF g (rd_T52 g (rd (lstU b g.length) (i : Int))).f1 ((lstU b g.length).take (i + 1)) = upN g b g.length R[i] := by
    intro i hi
    have e1 : rd (lstU b g.length) (i : Int) = ((R[i] : Nat) : Int) := by
      rw [rdI_is _ i (by rw [hL, List.length_map]; exact hi)]
      simp [hL]
    rw [e1, hL, ← List.map_take, cnt_map, take_le hs i hi, List.filter_filter]
    generalize R[i] = r
    rw [← hR, List.filter_filter]
    unfold upN
    congr 1
    refine List.filter_congr (fun x _ => ?_)
    cases bitB b x <;> simp
    rw [Bool.and_comm]
  constructor
  · intro h a ha hb
    obtain ⟨i, hi, rfl⟩ := List.getElem_of_mem ((hmem a).2 ⟨ha, hb⟩)
    have := h i (by rw [hL, List.length_map]; exact hi)
    unfold FitAt at this
    rw [key i hi] at this
    exact this
  · intro h i hi
    have hi2 : i < R.length := by rw [hL, List.length_map] at hi; exact hi
    have hm := (hmem R[i]).1 (List.getElem_mem hi2)
    unfold FitAt
    rw [key i hi2]
    exact h _ hm.1 hm.2
theorem filter_le {α : Type} {p q : α → Bool} : ∀ l : List α, (∀ x ∈ l, p x = true → q x = true) → (l.filter p).length ≤ (l.filter q).length
  | [], _ => Nat.le_refl _
  | x :: l, h => by
    have ih := filter_le l (fun y hy => h y (List.mem_cons_of_mem _ hy))
    have hx := h x (List.mem_cons_self ..)
    rw [List.filter_cons, List.filter_cons]
    cases hp : p x with
    | true => rw [hx hp]; simpa using ih
    | false =>
      cases q x with
      | true => simp; omega
      | false => simpa using ih
theorem last_same (p : Nat → Bool) : ∀ (d a : Nat), p a = true → ∃ m, a ≤ m ∧ m ≤ a + d ∧ p m = true ∧ ∀ j, m < j → j ≤ a + d → p j = false
  | 0, a, h => ⟨a, Nat.le_refl _, by omega, h, fun j h1 h2 => by omega⟩
  | d + 1, a, h => by
    obtain ⟨m, h1, h2, h3, h4⟩ := last_same p d a h
    cases hp : p (a + (d + 1)) with
    | true => exact ⟨a + (d + 1), by omega, by omega, hp, fun j h5 h6 => by omega⟩
    | false =>
      refine ⟨m, h1, by omega, h3, fun j h5 h6 => ?_⟩
      by_cases he : j = a + (d + 1)
      · subst he; exact hp
      · exact h4 j h5 (by omega)
theorem fit_most {g : List S52} {b n : Int} (hs : SortG g) (n0 : 0 ≤ n) : FitP g (lstU b g.length) n ↔ mostN g b g.length ≤ n := by
  have hmono : ∀ j k : Nat, j ≤ k → k < g.length → (rd_T52 g (j : Int)).f1 ≤ (rd_T52 g (k : Int)).f1 := by
    intro j k hjk hk
    by_cases he : j = k
    · subst he; exact Int.le_refl _
    · have := List.pairwise_iff_getElem.1 hs j k (by omega) hk (by omega)
      rw [rd52_is g j (by omega), rd52_is g k hk]
      unfold ltG at this
      omega
  rw [fit_bits, mostN_le n0]
  constructor
  · intro h a ha hb
    obtain ⟨m, m1, m2, m3, m4⟩ := last_same (fun j => bitB b j && decide ((rd_T52 g (j : Int)).f1 = (rd_T52 g (a : Int)).f1)) (g.length - 1 - a) a (by simp [hb])
    have m3 : bitB b m = true ∧ (rd_T52 g (m : Int)).f1 = (rd_T52 g (a : Int)).f1 := by simpa using m3
    have hm := h m (by omega) m3.1
    have hle : manyN g b a g.length ≤ upN g b g.length m := by
      rw [manyN_count]
      unfold upN
      refine filter_le _ (fun j hj hp => ?_)
      have hjl := List.mem_range.1 hj
      simp at hp ⊢
      obtain ⟨p1, p2, p3⟩ := hp
      refine ⟨p1, ?_, by omega⟩
      by_cases hjm : j ≤ m
      · exact hjm
      · exfalso
        have h5 := m4 j (by omega) (by omega)
        have h6 := hmono a j (by omega) hjl
        have h7 : (rd_T52 g (j : Int)).f1 = (rd_T52 g (a : Int)).f1 := by omega
        simp [p1, h7] at h5
    omega
  · intro h a ha hb
    have hm := h a ha hb
    have hle : upN g b g.length a ≤ manyN g b a g.length := by
      rw [manyN_count]
      unfold upN
      refine filter_le _ (fun j hj hp => ?_)
      simp at hp ⊢
      obtain ⟨p1, p2, p3⟩ := hp
      exact ⟨p1, hmono j a p2 ha, p3⟩
    omega
end Go.Proofs.Ytdkfmbammdmohaa.PPolicyCosts

namespace Go.Proofs.Ytdkfmbammdmohaa.PPolicyCosts
open Go.RowKit Go.Proofs.YtdkfmbammdmohaaW.PrintWords Go.Proofs.YtdkfmbammdmohaaW.PrintLast Go.Proofs.YtdkfmbammdmohaaW.PrintMore
open Go.Proofs.YtdkfmbammdmohaaM Go.Proofs.YtdkfmbammdmohaaS
set_option linter.unusedVariables false
set_option linter.unusedSimpArgs false

/-- the bits of the gaps that are worth it -/
def worthB (hold win : Int) (g : List S52) : Int := bitsN (fun i => decide (0 < savW hold win (rd_T52 g (i : Int)))) g.length
/-- the least cost of all sets, below a number -/
def bestR (hold win base : Int) (g : List S52) : Nat → Int
  | 0 => -1
  | b + 1 => if bestR hold win base g b < 0 ∨ keepC hold win g (b : Int) base g.length < bestR hold win base g b then keepC hold win g (b : Int) base g.length else bestR hold win base g b
def FitsB (hold win n : Int) (g : List S52) (b : Nat) : Prop := (∀ i, bitB (b : Int) i = true → bitB (worthB hold win g) i = true) ∧ mostN g (b : Int) g.length ≤ n
open Classical in
/-- the least cost of those that fit, and the least list of it, below a number -/
noncomputable def cheapR (hold win base n : Int) (g : List S52) : Nat → Int × List Int
  | 0 => (-1, [])
  | b + 1 => if FitsB hold win n g b ∧ ((cheapR hold win base n g b).1 < 0 ∨ keepC hold win g (b : Int) base g.length < (cheapR hold win base n g b).1 ∨ (keepC hold win g (b : Int) base g.length = (cheapR hold win base n g b).1 ∧ lexL (lstU (b : Int) 8) (cheapR hold win base n g b).2 = true)) then (keepC hold win g (b : Int) base g.length, lstU (b : Int) 8) else cheapR hold win base n g b

structure FewH (hold win base : Int) (g : List S52) : Prop where
  few : ∀ x ∈ g, fewG x
  len : g.length ≤ 8
  srt : SortG g
  h0 : 0 ≤ hold
  h1 : hold < 8
  w0 : 0 ≤ win
  w1 : win < 40
  c0 : (g.length : Int) * win ≤ base
  c1 : base ≤ 400
theorem FewH.base0 {hold win base : Int} {g : List S52} (h : FewH hold win base g) : 0 ≤ base := by
  have := Int.mul_nonneg (show (0 : Int) ≤ g.length by omega) h.w0
  have := h.c0
  omega
/-- what is kept costs what it saves less -/
theorem keep_val {hold win base : Int} {g : List S52} (h : FewH hold win base g) (b : Int) : ∀ k, k ≤ g.length → keepC hold win g b base k = base - valL hold win g (lstU b k) ∧ base - win * k ≤ keepC hold win g b base k
  | 0, _ => by simp [keepC, lstU, valL]
  | k + 1, hk => by
    obtain ⟨h1, h2⟩ := keep_val h b k (by omega)
    have hf : fewG (rd_T52 g (k : Int)) := by rw [rd52_is g k (by omega)]; exact h.few _ (List.getElem_mem _)
    have hs := few_sav hf h.h0 h.h1 h.w0 h.w1
    have hm := few_mul hf h.h0 h.h1
    have ha := few_add hf h.h0 h.h1 h.w0 h.w1
    have hl := h.len
    obtain ⟨⟨k1, k2⟩, _⟩ := keep_least h.few (by omega) h.h0 h.h1 h.w0 h.w1 h.base0 h.c1 b k (by omega)
    have hc1 := h.c1
    have hb0 := h.base0
    have hw1 := h.w1
    have hw0 := h.w0
    have hkm : win * ((k + 1 : Nat) : Int) = win * (k : Int) + win := by rw [Int.natCast_add, Int.mul_add]; omega
    rw [keepC, lstU_succ, ha, hkm]
    by_cases hb : bitB b k = true
    · rw [if_pos hb, if_pos hb, valL_snoc, hs]
      generalize hold * ((rd_T52 g (k : Int)).f2 - (rd_T52 g (k : Int)).f1) = m at *
      generalize keepC hold win g b base k = kc at *
      have : wrap64 (kc + (m - win)) = kc + (m - win) := by unfold wrap64; omega
      rw [this]
      omega
    · rw [if_neg hb, if_neg hb]
      omega
theorem keep_pos {hold win base : Int} {g : List S52} (h : FewH hold win base g) (b : Int) : 0 ≤ keepC hold win g b base g.length := by
  have h1 := (keep_val h b g.length (Nat.le_refl _)).2
  have h2 := h.c0
  rw [Int.mul_comm] at h2
  omega
theorem lst8 {g : List S52} (hl : g.length ≤ 8) (b : Int) (b0 : 0 ≤ b) (b1 : b < 2 ^ g.length) : lstU b 8 = lstU b g.length := by
  obtain ⟨d, hd⟩ : ∃ d, 8 = g.length + d := ⟨8 - g.length, by omega⟩
  rw [hd]
  exact lst_more _ g.length (fun i hi => bitB_far _ _ _ b0 b1 hi) d
theorem pow_cast (k : Nat) : ((2 ^ k : Nat) : Int) = 2 ^ k := by simp

/-- the least cost of all sets is what Least says -/
theorem best_is {hold win base : Int} {g : List S52} (h : FewH hold win base g) : bestR hold win base g (2 ^ g.length) = (leastR hold win base g g.length).1 := by
  have hl := h.len
  have inv : ∀ b : Nat, b = 0 ∨ (∃ c, c < b ∧ bestR hold win base g b = keepC hold win g (c : Int) base g.length) ∧ ∀ c, c < b → bestR hold win base g b ≤ keepC hold win g (c : Int) base g.length := by
    intro b
    induction b with
    | zero => exact .inl rfl
    | succ b ih =>
      right
      rw [bestR]
      have hp := keep_pos h (b : Int)
      rcases ih with rfl | ⟨⟨c, hc, he⟩, hmin⟩
      · rw [if_pos (.inl (by simp [bestR]))]
        refine ⟨⟨0, by omega, rfl⟩, fun c hc => ?_⟩
        obtain rfl : c = 0 := by omega
        exact Int.le_refl _
      · have hcp := keep_pos h (c : Int)
        by_cases hlt : keepC hold win g (b : Int) base g.length < bestR hold win base g b
        · rw [if_pos (.inr hlt)]
          refine ⟨⟨b, by omega, rfl⟩, fun d hd => ?_⟩
          by_cases hdb : d = b
          · subst hdb; exact Int.le_refl _
          · have := hmin d (by omega); omega
        · rw [if_neg (by omega)]
          refine ⟨⟨c, by omega, he⟩, fun d hd => ?_⟩
          by_cases hdb : d = b
          · subst hdb; omega
          · exact hmin d (by omega)
  have hpos : 0 < 2 ^ g.length := Nat.two_pow_pos _
  rcases inv (2 ^ g.length) with h0 | ⟨⟨c, hc, he⟩, hmin⟩
  · omega
  · have hbd := bitsN_bd (fun i => decide (0 ≤ savW hold win (rd_T52 g (i : Int)))) g.length
    obtain ⟨B, hB⟩ := Int.eq_ofNat_of_zero_le hbd.1
    have hBl : B < 2 ^ g.length := by
      have := hbd.2
      rw [hB, ← pow_cast] at this
      exact_mod_cast this
    have k1 := (keep_least h.few (by omega) h.h0 h.h1 h.w0 h.w1 h.base0 h.c1 (B : Int) g.length (Nat.le_refl _)).2.2.2 (fun i hi => by
      rw [← hB, bitsN_bit _ _ _ hi]
      simp)
    have k2 := hmin B hBl
    have k3 := (keep_least h.few (by omega) h.h0 h.h1 h.w0 h.w1 h.base0 h.c1 (c : Int) g.length (Nat.le_refl _)).2.2.1
    omega

def candP (hold win : Int) (g : List S52) (ws : List Int) (s : Nat) : Int × List Int := pickR hold win g ws (s : Int) ws.length
def candB (hold win base : Int) (g : List S52) (b : Nat) : Int × List Int := (base - keepC hold win g (b : Int) base g.length, lstU (b : Int) 8)
theorem lim_scan {hold win n : Int} {g : List S52} {ws : List Int} (hW : ∀ x ∈ ws, 0 ≤ savW hold win (rd_T52 g x) ∧ savW hold win (rd_T52 g x) ≤ 40) (hl : ws.length ≤ 60) : ∀ S : Nat,
    ∃ o, ScanOk (fun s => FitP g (candP hold win g ws s).2 n) (candP hold win g ws) S o ∧ limR hold win g ws n S = o.getD (-1, []) ∧ (∀ x, o = some x → 0 ≤ x.1)
  | 0 => ⟨none, fun s hs => by omega, rfl, fun x hx => by cases hx⟩
  | S + 1 => by
    obtain ⟨o, h1, h2, h3⟩ := lim_scan hW hl S
    have hp := (pick_is hW hl (S : Int) ws.length (Nat.le_refl _)).2.2.1
    by_cases hc : FitP g (candP hold win g ws S).2 n ∧ newB (candP hold win g ws S) o
    · refine ⟨some (candP hold win g ws S), scan_yes h1 hc.1 hc.2, ?_, fun x hx => by injection hx with hx; subst hx; exact hp⟩
      rw [Option.getD_some]
      refine limR_yes ⟨hc.1, ?_⟩
      rw [h2]
      cases o with
      | none => exact .inl (by show (-1 : Int) < (pickR hold win g ws (S : Int) ws.length).1; omega)
      | some b =>
        rcases hc.2 with hb | hb
        · exact .inl hb
        · exact .inr ⟨hb.1, (lexC_is _ _).2 hb.2⟩
    · refine ⟨o, scan_no h1 hc, ?_, h3⟩
      rw [← h2]
      refine limR_no (fun hx => hc ⟨hx.1, ?_⟩)
      have hx := hx.2
      rw [h2] at hx
      cases o with
      | none => trivial
      | some b =>
        rcases hx with hx | hx
        · exact .inl hx
        · exact .inr ⟨hx.1, (lexC_is _ _).1 hx.2⟩
theorem cheap_scan {hold win base n : Int} {g : List S52} (h : FewH hold win base g) : ∀ S : Nat,
    ∃ o, ScanOk (FitsB hold win n g) (candB hold win base g) S o ∧ (cheapR hold win base n g S = match o with | none => (-1, []) | some x => (base - x.1, x.2)) ∧ (∀ x, o = some x → x.1 ≤ base)
  | 0 => ⟨none, fun s hs => by omega, rfl, fun x hx => by cases hx⟩
  | S + 1 => by
    obtain ⟨o, h1, h2, h3⟩ := cheap_scan (n := n) h S
    have hp := keep_pos h (S : Int)
    by_cases hc : FitsB hold win n g S ∧ newB (candB hold win base g S) o
    · refine ⟨some (candB hold win base g S), scan_yes h1 hc.1 hc.2, ?_, fun x hx => by injection hx with hx; subst hx; show base - _ ≤ base; omega⟩
      rw [cheapR, if_pos]
      · show _ = (base - (base - keepC hold win g (S : Int) base g.length), lstU (S : Int) 8)
        congr 1
        omega
      · refine ⟨hc.1, ?_⟩
        rw [h2]
        cases o with
        | none => exact .inl (by simp)
        | some b =>
          have h4 := h3 b rfl
          rcases hc.2 with hb | ⟨hb, hb2⟩
          · have hb : b.1 < base - keepC hold win g (S : Int) base g.length := hb
            exact .inr (.inl (by simp only; omega))
          · have hb : base - keepC hold win g (S : Int) base g.length = b.1 := hb
            exact .inr (.inr ⟨by simp only; omega, hb2⟩)
    · refine ⟨o, scan_no h1 hc, ?_, h3⟩
      rw [← h2, cheapR, if_neg]
      intro hx
      refine hc ⟨hx.1, ?_⟩
      have hx := hx.2
      rw [h2] at hx
      cases o with
      | none => trivial
      | some b =>
        have h4 := h3 b rfl
        simp only at hx
        rcases hx with hx | hx | hx
        · omega
        · exact .inl (by show b.1 < base - keepC hold win g (S : Int) base g.length; omega)
        · exact .inr ⟨by show base - keepC hold win g (S : Int) base g.length = b.1; omega, hx.2⟩
/-- The best set that fits. -/
theorem limit_is {hold win base n : Int} {g : List S52} (h : FewH hold win base g) (n0 : 0 ≤ n) :
    cheapR hold win base n g (2 ^ g.length) = (base - (limR hold win g (worthR hold win g g.length) n (2 ^ (worthR hold win g g.length).length)).1, (limR hold win g (worthR hold win g g.length) n (2 ^ (worthR hold win g g.length).length)).2) ∧
      0 ≤ (limR hold win g (worthR hold win g g.length) n (2 ^ (worthR hold win g g.length).length)).1 ∧ (limR hold win g (worthR hold win g g.length) n (2 ^ (worthR hold win g g.length).length)).1 ≤ base ∧ (limR hold win g (worthR hold win g g.length) n (2 ^ (worthR hold win g g.length).length)).2.length ≤ 8 := by
  have hl := h.len
  have hwl := worthR_len hold win g g.length
  have hmem := worthR_mem hold win g g.length
  have hpos : ∀ x ∈ worthR hold win g g.length, 0 < savW hold win (rd_T52 g x) := by
    intro x hx
    rw [worth_filter, List.mem_map] at hx
    obtain ⟨i, hi, rfl⟩ := hx
    have := (List.mem_filter.1 hi).2
    simpa using this
  have hW : ∀ x ∈ worthR hold win g g.length, 0 ≤ savW hold win (rd_T52 g x) ∧ savW hold win (rd_T52 g x) ≤ 40 := by
    intro x hx
    have h1 := hmem x hx
    obtain ⟨i, rfl⟩ := Int.eq_ofNat_of_zero_le h1.1
    have hf : fewG (rd_T52 g (i : Int)) := by rw [rd52_is g i (by omega)]; exact h.few _ (List.getElem_mem _)
    have hs := few_sav hf h.h0 h.h1 h.w0 h.w1
    have hm := few_mul hf h.h0 h.h1
    have hp := hpos _ hx
    have := h.w1
    omega
  have hlim := limR_len hold win g (worthR hold win g g.length) n (2 ^ (worthR hold win g g.length).length)
  obtain ⟨ws, hws⟩ : ∃ ws, worthR hold win g g.length = ws := ⟨_, rfl⟩
  rw [hws] at hwl hW hlim hpos ⊢
  obtain ⟨o, s1, s2, s3⟩ := lim_scan (n := n) hW (by omega) (2 ^ ws.length)
  obtain ⟨o', c1, c2, c3⟩ := cheap_scan (n := n) h (2 ^ g.length)
  have hwb := bitsN_bit (fun i => decide (0 < savW hold win (rd_T52 g (i : Int)))) g.length
  have hwd := bitsN_bd (fun i => decide (0 < savW hold win (rd_T52 g (i : Int)))) g.length
  have hwB : ∀ i, bitB (worthB hold win g) i = true ↔ i < g.length ∧ 0 < savW hold win (rd_T52 g (i : Int)) := by
    intro i
    by_cases hi : i < g.length
    · rw [worthB, hwb i hi]; simp [hi]
    · rw [worthB, bitB_far _ _ _ hwd.1 hwd.2 (by omega)]; simp [hi]
  have f1 : ∀ s, s < 2 ^ ws.length → FitP g (candP hold win g ws s).2 n → ∃ b, b < 2 ^ g.length ∧ FitsB hold win n g b ∧ candB hold win base g b = candP hold win g ws s := by
    intro s hs hf
    obtain ⟨p1, p2, _, _⟩ := pick_is hW (by omega) (s : Int) ws.length (Nat.le_refl _)
    rw [List.take_length, ← hws] at p2
    rw [hws] at p2
    have p2' : (pickR hold win g ws (s : Int) ws.length).2.Sublist (worthR hold win g g.length) := by rw [hws]; exact p2
    obtain ⟨b, b0, b1, hb, hbb⟩ := lst_onto hold win g g.length _ p2'
    obtain ⟨B, rfl⟩ := Int.eq_ofNat_of_zero_le b0
    have hBl : B < 2 ^ g.length := by rw [← pow_cast] at b1; exact_mod_cast b1
    have hf : FitP g (pickR hold win g ws (s : Int) ws.length).2 n := hf
    refine ⟨B, hBl, ⟨fun i hi => (hwB i).2 (hbb i hi), ?_⟩, ?_⟩
    · rw [← fit_most h.srt n0, hb]
      exact hf
    · unfold candB candP
      rw [lst8 hl _ b0 b1, (keep_val h (B : Int) g.length (Nat.le_refl _)).1, hb]
      refine Prod.ext ?_ rfl
      show base - (base - _) = _
      rw [p1]
      omega
  have f2 : ∀ b, b < 2 ^ g.length → FitsB hold win n g b → ∃ s, s < 2 ^ ws.length ∧ FitP g (candP hold win g ws s).2 n ∧ candP hold win g ws s = candB hold win base g b := by
    intro b hb hf
    have b0 : (0 : Int) ≤ (b : Int) := by omega
    have b1 : (b : Int) < 2 ^ g.length := by rw [← pow_cast]; exact_mod_cast hb
    have hsub := lst_sub hold win g (b : Int) g.length (fun i hi hbi => ((hwB i).1 (hf.1 i hbi)).2)
    rw [hws] at hsub
    obtain ⟨s, s0, s1', hs⟩ := pick_onto (hold := hold) (win := win) (gs := g) (ws := ws) ws.length (Nat.le_refl _) (lstU (b : Int) g.length) (by rw [List.take_length]; exact hsub)
    obtain ⟨s, rfl⟩ := Int.eq_ofNat_of_zero_le s0
    have hsl : s < 2 ^ ws.length := by rw [← pow_cast] at s1'; exact_mod_cast s1'
    obtain ⟨p1, _, _, _⟩ := pick_is hW (by omega) (s : Int) ws.length (Nat.le_refl _)
    refine ⟨s, hsl, ?_, ?_⟩
    · show FitP g (pickR hold win g ws (s : Int) ws.length).2 n
      rw [hs, fit_most h.srt n0]
      exact hf.2
    · unfold candB candP
      rw [lst8 hl _ b0 b1, (keep_val h (b : Int) g.length (Nat.le_refl _)).1]
      refine Prod.ext ?_ hs
      show _ = base - (base - _)
      rw [p1, hs]
      omega
  cases o with
  | none =>
    exfalso
    obtain ⟨s, z0, z1, hs⟩ := pick_onto (hold := hold) (win := win) (gs := g) (ws := ws) ws.length (Nat.le_refl _) [] (List.nil_sublist _)
    obtain ⟨s, rfl⟩ := Int.eq_ofNat_of_zero_le z0
    have hsl : s < 2 ^ ws.length := by rw [← pow_cast] at z1; exact_mod_cast z1
    refine s1 s hsl ?_
    show FitP g (pickR hold win g ws (s : Int) ws.length).2 n
    rw [hs]
    intro i hi
    simp at hi
  | some x =>
    have e := scan_same s1 c1 f1 f2
    subst e
    rw [c2, s2]
    have hx0 := s3 x rfl
    have hx1 := c3 x rfl
    rw [s2] at hlim
    exact ⟨rfl, hx0, hx1, by simp only [Option.getD_some] at hlim ⊢; omega⟩
end Go.Proofs.Ytdkfmbammdmohaa.PPolicyCosts

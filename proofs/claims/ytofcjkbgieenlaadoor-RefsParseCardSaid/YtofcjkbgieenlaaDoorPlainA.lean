/- The program's paths, domains, tags against the reference's: plain lists. By an AI agent. -/
import Derived.Test.YtofcjkbgieenlaaDoorRefsLaw
namespace Go.Proofs.YtofcjkbgieenlaaDoor.PM
open Go Go.Proofs Go.Proofs.YtofcjkbgieenlaaDoor.Hand
set_option linter.unusedVariables false
set_option maxRecDepth 100000
set_option linter.unusedSimpArgs false

theorem splitB_spl (c : UInt8) : ∀ l, splitB c l = spl c l
  | [] => rfl
  | b :: l => by
    unfold splitB spl
    rw [splitB_spl c l]
    split
    · rfl
    · cases spl c l <;> rfl
theorem splitS_cut (c : UInt8) (s : ByteArray) : splitS c s = cutAll s (c.toNat : Int) := by
  rw [cutAll_spl]
  unfold splitS
  rw [splitB_spl]
  rfl
theorem all_range {n : Nat} {p : Nat → Bool} : (List.range' 0 n).all p = true ↔ ∀ j, j < n → p j = true := by
  rw [List.all_eq_true]
  constructor
  · intro h j hj
    exact h j (by rw [List.mem_range']; exact ⟨j, hj, by omega⟩)
  · intro h x hx
    rw [List.mem_range'] at hx
    obtain ⟨i, hi, rfl⟩ := hx
    exact h _ (by omega)
theorem bt_byte (s : ByteArray) (j : Int) : ∃ n : Nat, n < 256 ∧ bt s j = (n : Int) := ⟨_, (s.data.toList.getD j.toNat 0).toNat_lt, rfl⟩
theorem ofS_iff (s t : ByteArray) : ofS s t = true ↔ ∀ j, j < s.size → someOf t (bt s j) 0 t.size = true := all_range
/-- What the tables hold. -/
def allP (c : Int) : Bool := letterB c || (digitB c || c == 45)
def tagP (c : Int) : Bool := letterB c || (digitB c || (c == 95 || (c == 46 || c == 45)))
def partQ (c : Int) : Bool := wb c || (c == 46 || (c == 95 || c == 45))
theorem allT_cls : ((List.range 256).all fun n => someOf allT (n : Int) 0 allT.size == allP n) = true := by kernel_rfl
theorem tagT_cls : ((List.range 256).all fun n => someOf tagT (n : Int) 0 tagT.size == tagP n) = true := by kernel_rfl
theorem tenT_cls : ((List.range 256).all fun n => someOf tenT (n : Int) 0 tenT.size == digitB n) = true := by kernel_rfl
theorem wordT_cls : ((List.range 256).all fun n => someOf wordT (n : Int) 0 wordT.size == wb n) = true := by kernel_rfl
theorem partT_cls : ((List.range 256).all fun n => someOf partT (n : Int) 0 partT.size == partQ n) = true := by kernel_rfl
theorem cls {T : ByteArray} {p : Int → Bool} (h : ((List.range 256).all fun n => someOf T (n : Int) 0 T.size == p n) = true) (s : ByteArray) (j : Int) : someOf T (bt s j) 0 T.size = p (bt s j) := by
  obtain ⟨n, hn, e⟩ := bt_byte s j
  rw [e]
  exact beq_iff_eq.1 (List.all_eq_true.1 h n (List.mem_range.2 hn))
theorem labelB_bad (x : ByteArray) : labelB x = !badLabel x := by
  rw [Bool.eq_iff_iff]
  have hof := ofS_iff x allT
  have key : labelB x = true ↔ (∀ j, j < x.size → labelAt x (j : Int) = true) ∧ x.size ≠ 0 := by
    unfold labelB labelFrom
    rw [Bool.and_eq_true, all_range]
    simp
  rw [key]
  unfold badLabel
  simp only [Bool.not_eq_true', Bool.or_eq_false_iff, beq_eq_false_iff_ne, ne_eq, Bool.not_eq_false']
  rw [hof]
  constructor
  · rintro ⟨h1, h2⟩
    have hl : ∀ j, j < x.size → (letterB (bt x j) || digitB (bt x j)) = true ∨ (bt x j = 45 ∧ j ≠ 0 ∧ j ≠ x.size - 1) := fun j hj => by
      have := h1 j hj
      unfold labelAt at this
      rw [Bool.or_eq_true] at this
      rcases this with h | h
      · exact .inl h
      · simp at h
        exact .inr ⟨h.1.1, by omega, by omega⟩
    have no45 : ∀ c : Int, c = 45 → ¬ (letterB c || digitB c) = true := fun c e => by subst e; decide
    refine ⟨by omega, fun j hj => ?_, ?_, ?_⟩
    · rw [cls (p := allP) allT_cls]
      unfold allP
      rcases hl j hj with h | ⟨h, _⟩
      · rw [← Bool.or_assoc, h]; rfl
      · rw [h]; rfl
    · intro h
      rcases hl 0 (by omega) with h3 | ⟨_, h3, _⟩
      · exact no45 _ h h3
      · exact h3 rfl
    · intro h
      rcases hl (x.size - 1) (by omega) with h3 | ⟨_, _, h3⟩
      · exact no45 _ h h3
      · exact h3 rfl
  · rintro ⟨h1, h2, h3, h4⟩
    refine ⟨fun j hj => ?_, by omega⟩
    have := h2 j hj
    rw [cls (p := allP) allT_cls] at this
    unfold allP at this
    unfold labelAt
    rw [← Bool.or_assoc, Bool.or_eq_true] at this
    rcases this with h | h
    · rw [h]; rfl
    · rw [beq_iff_eq] at h
      have j0 : j ≠ 0 := fun e => by subst e; exact h3 h
      have j1 : j ≠ x.size - 1 := fun e => by subst e; exact h4 h
      simp only [Bool.or_eq_true]
      right
      simp [h]
      omega
theorem tagFrom_all (s : ByteArray) : ∀ d i, tagFrom s d i = (List.range' i d).all fun j => !tagBad (bt s j) j
  | 0, i => by unfold tagFrom; rfl
  | d + 1, i => by
    unfold tagFrom
    rw [List.range'_succ, List.all_cons, tagFrom_all s d (i + 1)]
    cases tagBad (bt s i) i <;> rfl
theorem tagS_ref (t : ByteArray) (h0 : isS t [] = false) : tagS t = !(decide ((t.size : Int) > 32) || (!ofS t tagT || (bt t 0 == 46 || bt t 0 == 45))) := by
  have hne : t.size ≠ 0 := fun e => by
    have := toList_empty t
    rw [show (t.toList == (ByteArray.mk #[]).toList) = false from h0, e] at this
    cases this
  unfold tagS
  rw [h0, Bool.eq_iff_iff, Bool.and_eq_true, tagFrom_all, all_range]
  simp only [Bool.not_false, Bool.true_and, decide_eq_true_eq, Bool.not_eq_true', Bool.or_eq_false_iff, decide_eq_false_iff_not, Bool.not_eq_false', beq_eq_false_iff_ne, ne_eq]
  rw [ofS_iff]
  have bad : ∀ c i : Int, tagBad c i = false ↔ (letterB c || (digitB c || c == 95)) = true ∨ (i ≠ 0 ∧ (c = 46 ∨ c = 45)) := fun c i => by
    unfold tagBad
    cases letterB c <;> cases digitB c <;> simp <;> (by_cases h1 : c = 95 <;> by_cases h2 : i = 0 <;> by_cases h3 : c = 46 <;> by_cases h4 : c = 45 <;> simp_all)
  constructor
  · rintro ⟨h1, h2⟩
    have h1' : ∀ j : Nat, j < t.size → (letterB (bt t j) || (digitB (bt t j) || bt t j == 95)) = true ∨ ((j : Int) ≠ 0 ∧ (bt t j = 46 ∨ bt t j = 45)) := fun j hj => (bad (bt t j) j).1 (h1 j hj)
    refine ⟨by omega, fun j hj => ?_, ?_, ?_⟩
    · rw [cls (p := tagP) tagT_cls]
      unfold tagP
      rcases h1' j hj with h | ⟨_, h | h⟩
      · rcases Bool.or_eq_true _ _ ▸ h with h | h
        · rw [h]; rfl
        · rcases Bool.or_eq_true _ _ ▸ h with h | h
          · rw [h]; simp
          · rw [h]; simp
      · rw [h]; rfl
      · rw [h]; rfl
    · intro e
      rcases h1' 0 (by omega) with h | ⟨h, _⟩
      · have e' : bt t ((0 : Nat) : Int) = 46 := e
        rw [e'] at h; exact absurd h (by decide)
      · exact h rfl
    · intro e
      rcases h1' 0 (by omega) with h | ⟨h, _⟩
      · have e' : bt t ((0 : Nat) : Int) = 45 := e
        rw [e'] at h; exact absurd h (by decide)
      · exact h rfl
  · rintro ⟨h1, h2, h3, h4⟩
    refine ⟨fun j hj => (bad _ _).2 ?_, by omega⟩
    have := h2 j hj
    rw [cls (p := tagP) tagT_cls] at this
    unfold tagP at this
    have hz : (j : Int) = 0 → bt t j = bt t 0 := fun e => by rw [e]
    by_cases e1 : bt t (j : Int) = 46
    · exact .inr ⟨fun e => h3 (by rw [← hz e]; exact e1), .inl e1⟩
    · by_cases e2 : bt t (j : Int) = 45
      · exact .inr ⟨fun e => h4 (by rw [← hz e]; exact e2), .inr e2⟩
      · left
        simpa [e1, e2] using this
end Go.Proofs.YtofcjkbgieenlaaDoor.PM

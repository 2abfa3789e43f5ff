/- The program's Check is the reference's. By an AI agent. -/
import Derived.Test.YtofcjkbgieenlaaDoorPlainD
namespace Go.Proofs.YtofcjkbgieenlaaDoor.PM
open Go Go.Proofs Go.Proofs.YtofcjkbgieenlaaDoor.Hand
set_option maxRecDepth 100000
set_option linter.unusedVariables false
set_option linter.unusedSimpArgs false

theorem ib_spec (c : UInt8) : ∀ l : List UInt8, (Lib.indexByte l c = -1 ∧ c ∉ l) ∨ ∃ i : Nat, Lib.indexByte l c = (i : Int) ∧ i < l.length ∧ l = l.take i ++ c :: l.drop (i + 1) ∧ c ∉ l.take i
  | [] => .inl ⟨rfl, List.not_mem_nil⟩
  | a :: l => by
    have e : Lib.indexByte (a :: l) c = if a == c then 0 else if Lib.indexByte l c == -1 then -1 else Lib.indexByte l c + 1 := rfl
    cases ha : a == c with
    | true =>
      right
      rw [e, ha]
      refine ⟨0, rfl, by simp, ?_, by simp⟩
      rw [beq_iff_eq.1 ha]
      rfl
    | false =>
      have hne := beq_eq_false_iff_ne.1 ha
      rw [e, ha]
      rcases ib_spec c l with ⟨h1, h2⟩ | ⟨i, h1, h2, h3, h4⟩
      · left
        rw [h1]
        refine ⟨rfl, fun h => ?_⟩
        rcases List.mem_cons.1 h with h | h
        · exact hne h.symm
        · exact h2 h
      · right
        rw [h1]
        have hb : ((i : Int) == -1) = false := by rw [beq_eq_false_iff_ne]; omega
        refine ⟨i + 1, by rw [hb]; simp, by simp; omega, ?_, fun h => ?_⟩
        · rw [List.take_succ_cons, List.drop_succ_cons, List.cons_append]
          exact congrArg _ h3
        · rw [List.take_succ_cons] at h
          rcases List.mem_cons.1 h with h | h
          · exact hne h.symm
          · exact h4 h
theorem cut_true {s : ByteArray} {c : UInt8} (h : cutF s c = true) : li s = li (cutA s c) ++ c :: li (cutZ s c) ∧ c ∉ li (cutA s c) := by
  unfold cutA cutZ
  rw [h, cond_true, cond_true]
  unfold cutF at h
  have h := of_decide_eq_true h
  rcases ib_spec c (li s) with ⟨h1, _⟩ | ⟨i, h1, h2, h3, h4⟩
  · have h1' : Lib.indexByte s.data.toList c = -1 := h1
    omega
  · have h1' : Lib.indexByte s.data.toList c = (i : Int) := h1
    rw [h1', Int.toNat_natCast, li_extract, li_extract, List.drop_zero, List.take_of_length_le (l := li s) (i := s.size) (by rw [li_size]; exact Nat.le_refl _)]
    exact ⟨h3, h4⟩
theorem cutF_iff (s : ByteArray) (c : UInt8) : cutF s c = true ↔ c ∈ li s := by
  refine ⟨cutF_mem, fun h => ?_⟩
  unfold cutF
  rcases ib_spec c (li s) with ⟨_, h2⟩ | ⟨i, h1, _⟩
  · exact absurd h h2
  · exact decide_eq_true (by have h1' : Lib.indexByte s.data.toList c = (i : Int) := h1; omega)
theorem hasSlash_cut (s : ByteArray) : hasSlash s = cutF s 47 := by unfold hasSlash cutF; rfl
theorem len_cut (s : ByteArray) (c : UInt8) : decide (((cutAll s (c.toNat : Int)).length : Int) > 1) = cutF s c := by
  rw [cutAll_cut]
  cases cutF s c with
  | false => rfl
  | true =>
    have := (cutAll_len (cutZ s c) (c.toNat : Int)).1
    rw [cond_true, List.length_cons]
    exact decide_eq_true (by omega)
theorem first_cut (s : ByteArray) (c : UInt8) : (cutAll s (c.toNat : Int)).getD 0 (ByteArray.mk #[]) = cutA s c := by
  rw [cutAll_cut]
  cases cutF s c <;> rfl
theorem hasDot_iff (s : ByteArray) : hasDot s = (cutF s 46 || cutF s 58) := by
  have key : ∀ l : List UInt8, Lib.indexAny l two58 ≥ 0 ↔ (46 : UInt8) ∈ l ∨ (58 : UInt8) ∈ l := fun l => by
    induction l with
    | nil => simp [Lib.indexAny]
    | cons a l ih =>
      rw [ia_cons, ih]
      have : two58.contains a = true ↔ a = 46 ∨ a = 58 := by
        rw [List.contains_iff_mem]
        simp
      rw [this]
      simp only [List.mem_cons]
      constructor
      · rintro ((h | h) | (h | h))
        · exact .inl (.inl h.symm)
        · exact .inr (.inl h.symm)
        · exact .inl (.inr h)
        · exact .inr (.inr h)
      · rintro ((h | h) | (h | h))
        · exact .inl (.inl h.symm)
        · exact .inr (.inl h)
        · exact .inl (.inr h.symm)
        · exact .inr (.inr h)
  rw [Bool.eq_iff_iff, Bool.or_eq_true, cutF_iff, cutF_iff]
  unfold hasDot
  rw [decide_eq_true_eq]
  exact key _
theorem toldS_eq (s : ByteArray) : toldS s = (hasDot s || isS s [108, 111, 99, 97, 108, 104, 111, 115, 116]) := by unfold toldS; rfl
theorem front_split (s : ByteArray) : frontS s = splitD s := by
  have h1 := len_cut s 47
  have h2 := first_cut s 47
  rw [show ((47 : UInt8).toNat : Int) = 47 from rfl] at h1 h2
  have h3 := len_cut (cutA s 47) 46
  have h4 := len_cut (cutA s 47) 58
  rw [show ((46 : UInt8).toNat : Int) = 46 from rfl] at h3
  rw [show ((58 : UInt8).toNat : Int) = 58 from rfl] at h4
  unfold frontS splitD
  rw [h2, h1, h3, h4, toldS_eq, hasDot_iff, Bool.or_assoc]
theorem told_empty {s : ByteArray} (h : toldS s = true) : isS s [] = false := by
  cases h0 : isS s [] with
  | false => rfl
  | true =>
    have : s = ⟨#[]⟩ := li_inj ((isS_nil s).1 h0)
    subst this
    exact absurd h (by rw [show toldS ⟨#[]⟩ = false from by kernel_rfl]; simp)
theorem spl_mem {c b : UInt8} : ∀ {l : List UInt8}, b ∈ l → b = c ∨ ∃ x ∈ spl c l, b ∈ x
  | a :: l, h => by
    unfold spl
    by_cases ha : a = c
    · rw [if_pos ha]
      rcases List.mem_cons.1 h with h | h
      · exact .inl (h.trans ha)
      · rcases spl_mem (c := c) h with h | ⟨x, h1, h2⟩
        · exact .inl h
        · exact .inr ⟨x, List.mem_cons_of_mem _ h1, h2⟩
    · rw [if_neg ha]
      cases hs : spl c l with
      | nil => exact absurd hs (spl_ne c l)
      | cons y t =>
        rcases List.mem_cons.1 h with h | h
        · exact .inr ⟨a :: y, List.mem_cons_self, by rw [h]; exact List.mem_cons_self⟩
        · rcases spl_mem (c := c) h with h | ⟨x, h1, h2⟩
          · exact .inl h
          · rw [hs] at h1
            rcases List.mem_cons.1 h1 with rfl | h1
            · exact .inr ⟨a :: x, List.mem_cons_self, List.mem_cons_of_mem _ h2⟩
            · exact .inr ⟨x, List.mem_cons_of_mem _ h1, h2⟩
theorem label_noSlash {x : ByteArray} (h : labelB x = true) : (47 : UInt8) ∉ li x := by
  intro hm
  rw [labelB_bad] at h
  unfold badLabel at h
  have h2 : ofS x allT = true := by
    cases ho : ofS x allT with
    | true => rfl
    | false => rw [ho] at h; simp at h
  exact absurd ((ofS_bytes (p := allP) allT_cls x).1 h2 47 hm) (by decide)
theorem domain_noSlash {d : ByteArray} (h : domainPS d = true) : (47 : UInt8) ∉ li d := by
  unfold domainPS at h
  have labs : ∀ y : ByteArray, (splitS 46 y).all labelB = true → (47 : UInt8) ∉ li y := fun y hy hm => by
    rcases spl_mem (c := 46) hm with hc | ⟨x, h1, h2⟩
    · exact absurd hc (by decide)
    · have : bs x ∈ splitS 46 y := by
        unfold splitS
        rw [splitB_spl]
        exact List.mem_map_of_mem h1
      exact label_noSlash (List.all_eq_true.1 hy _ this) h2
  cases hf : cutF d 58 with
  | false =>
    rw [hf, Bool.false_and, cond_false, cutA_none hf] at h
    exact labs d h
  | true =>
    rw [hf, Bool.true_and] at h
    cases hp : portS (cutZ d 58) with
    | false => rw [hp] at h; simp at h
    | true =>
      rw [hp, Bool.not_true, cond_false] at h
      obtain ⟨e, _⟩ := cut_true hf
      intro hm
      rw [e] at hm
      rcases List.mem_append.1 hm with hm | hm
      · exact labs _ h hm
      · rcases List.mem_cons.1 hm with hm | hm
        · exact absurd hm (by decide)
        · rw [portS_ref] at hp
          have h2 : ofS (cutZ d 58) tenT = true := by
            cases ho : ofS (cutZ d 58) tenT with
            | true => rfl
            | false => rw [ho] at hp; simp at hp
          exact absurd ((ofS_bytes tenT_cls _).1 h2 47 hm) (by decide)
/-- A text ahead of a byte that it has not. -/
theorem cut_app (d z : ByteArray) (c : UInt8) (h : c ∉ li d) : cutF (d ++ ⟨#[c]⟩ ++ z) c = true ∧ cutA (d ++ ⟨#[c]⟩ ++ z) c = d ∧ cutZ (d ++ ⟨#[c]⟩ ++ z) c = z := by
  have hl : li (d ++ ⟨#[c]⟩ ++ z) = li d ++ c :: li z := by
    rw [li_append, li_append]
    simp [li]
  have hf : cutF (d ++ ⟨#[c]⟩ ++ z) c = true := (cutF_iff _ _).2 (by rw [hl]; simp)
  obtain ⟨e, hn⟩ := cut_true hf
  rw [hl] at e
  have uniq : ∀ (a b x y : List UInt8), c ∉ a → c ∉ b → a ++ c :: x = b ++ c :: y → a = b ∧ x = y := by
    intro a
    induction a with
    | nil =>
      intro b x y _ hb he
      cases b with
      | nil => simpa using he
      | cons b0 b =>
        simp only [List.nil_append, List.cons_append, List.cons.injEq] at he
        exact absurd (by rw [he.1]; exact List.mem_cons_self) hb
    | cons a0 a ih =>
      intro b x y ha hb he
      cases b with
      | nil =>
        simp only [List.nil_append, List.cons_append, List.cons.injEq] at he
        exact absurd (by rw [← he.1]; exact List.mem_cons_self) ha
      | cons b0 b =>
        simp only [List.cons_append, List.cons.injEq] at he
        obtain ⟨h1, h2⟩ := ih b x y (fun h => ha (List.mem_cons_of_mem _ h)) (fun h => hb (List.mem_cons_of_mem _ h)) he.2
        exact ⟨by rw [he.1, h1], h2⟩
  obtain ⟨e1, e2⟩ := uniq _ _ _ _ h hn e
  exact ⟨hf, (li_inj e1).symm, (li_inj e2).symm⟩
theorem front_domain {d : ByteArray} (h : domainPS d = true) : isS (frontS (d ++ ⟨#[47]⟩)) [] = !toldS d := by
  have hn := domain_noSlash h
  have hz : d ++ ⟨#[47]⟩ = d ++ ⟨#[47]⟩ ++ ⟨#[]⟩ := li_inj (by rw [li_append (d ++ ⟨#[47]⟩)]; simp [li])
  obtain ⟨c1, c2, c3⟩ := cut_app d ⟨#[]⟩ 47 hn
  rw [front_split, hz]
  unfold splitD
  rw [c1, c2, Bool.true_and]
  cases ht : toldS d with
  | true => rw [cond_true, told_empty ht]; rfl
  | false => exact (isS_nil _).2 rfl
theorem len2 (p : ByteArray) : decide (((cutAll p 47).length : Int) < 2) = !hasSlash p := by
  have h := len_cut p 47
  rw [show ((47 : UInt8).toNat : Int) = 47 from rfl] at h
  rw [hasSlash_cut, ← h, ← decide_not]
  exact decide_eq_decide.2 (by omega)
theorem check_same (r : RefT) : checkS r = rcheckS r := by
  unfold checkS rcheckS
  rw [← domain_same, ← path_same]
  cases hd : domainPS r.d with
  | false => rfl
  | true =>
    rw [front_domain hd, len2]
    have htag : isS r.t [] = false → tagS r.t = !(decide ((r.t.size : Int) > 32) || (!ofS r.t tagT || (bt r.t 0 == 46 || bt r.t 0 == 45))) := tagS_ref r.t
    unfold taggedS knownS
    cases h0 : isS r.t [] with
    | true =>
      cases pathPS r.p <;> cases toldS r.d <;> cases isS r.d [105, 110, 100, 101, 120, 46, 100, 111, 99, 107, 101, 114, 46, 105, 111] <;> cases isS r.d [100, 111, 99, 107, 101, 114, 46, 105, 111] <;> cases hasSlash r.p <;> cases r.b <;> cases eqD r.x zerosI <;> cases decide (((textS tellS r).size : Int) > 200) <;> rfl
    | false =>
      rw [htag h0]
      cases (decide ((r.t.size : Int) > 32) || (!ofS r.t tagT || (bt r.t 0 == 46 || bt r.t 0 == 45))) <;> cases pathPS r.p <;> cases toldS r.d <;> cases isS r.d [105, 110, 100, 101, 120, 46, 100, 111, 99, 107, 101, 114, 46, 105, 111] <;> cases isS r.d [100, 111, 99, 107, 101, 114, 46, 105, 111] <;> cases hasSlash r.p <;> cases r.b <;> cases eqD r.x zerosI <;> cases decide (((textS tellS r).size : Int) > 200) <;> rfl
end Go.Proofs.YtofcjkbgieenlaaDoor.PM

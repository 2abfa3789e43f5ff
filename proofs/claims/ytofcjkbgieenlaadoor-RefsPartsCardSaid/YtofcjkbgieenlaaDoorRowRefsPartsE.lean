/- The program's parts and paths are the reference's. The program's Check is the reference's. The program's Text and Short are the reference's. The program's Parse of names is the reference's, where their digests' are. The program's digests are the reference's. Values that point nowhere: opened and shut in any world. A name that comes in. A name that comes in, as the walks have it. Arrays of bytes that come in, as the walks have them. Texts of names that may be are read as those names. Names of words of small letters. The walks of the statement RefsBack. The walks of the statement RefsParts. The walk of the statement RefsParts. By an AI agent. -/
import Derived.Test.YtofcjkbgieenlaaDoorRowRefsPartsD
import Derived.ChangeSame
import Derived.Laws.IdiomArrays
import Derived.OpenShut
set_option linter.unusedVariables false
set_option linter.unusedSimpArgs false
namespace Go.Proofs.YtofcjkbgieenlaaDoor.PM
open Go Go.Proofs Go.Proofs.YtofcjkbgieenlaaDoor.Hand
set_option maxRecDepth 100000
set_option linter.unusedVariables false
set_option linter.unusedSimpArgs false

theorem pL_false : ∀ d l, pL d l false = false
  | 0, _ => rfl
  | d + 1, _ => rfl
theorem dropW_head (p : UInt8 → Bool) : ∀ l : List UInt8, l.dropWhile p = [] ∨ ∃ b t, l.dropWhile p = b :: t ∧ p b = false
  | [] => .inl rfl
  | a :: l => by
    rw [List.dropWhile_cons]
    cases h : p a with
    | true => simpa using dropW_head p l
    | false => exact .inr ⟨a, l, by simp, h⟩
theorem okGap_pQ {g : List UInt8} (h : okGap g = true) : g.all pQ = true := by
  have h46 : pQ 46 = true := by decide
  have h95 : pQ 95 = true := by decide
  have h45 : pQ 45 = true := by decide
  rcases (okGap_iff g).1 h with rfl | rfl | rfl | rfl | h
  · rfl
  · simp [h46]
  · simp [h95]
  · simp [h95]
  · exact List.all_eq_true.2 fun x hx => by rw [h x hx]; exact h45
theorem pL_A : ∀ (d : Nat) (l : List UInt8), l.length ≤ d → headW l = false → pL d l true = A l []
  | 0, l, hl, _ => by
    obtain rfl : l = [] := List.eq_nil_of_length_eq_zero (by omega)
    rfl
  | d + 1, [], _, _ => rfl
  | d + 1, a :: l, hl, hh => by
    obtain ⟨g, hg⟩ : ∃ g, g = (a :: l).takeWhile (fun b => !Wb b) := ⟨_, rfl⟩
    obtain ⟨r, hr⟩ : ∃ r, r = (a :: l).dropWhile (fun b => !Wb b) := ⟨_, rfl⟩
    have e : a :: l = g ++ r := by rw [hg, hr, List.takeWhile_append_dropWhile]
    have hn : ∀ x ∈ g, Wb x = false := fun x hx => by
      rw [hg] at hx
      have := (List.all_eq_true.1 (List.all_takeWhile (l := a :: l) (p := fun b => !Wb b))) x hx
      simpa using this
    have hrw : r = [] ∨ headW r = true := by
      rcases dropW_head (fun b => !Wb b) (a :: l) with h | ⟨b, t, h, hb⟩
      · exact .inl (hr.trans h)
      · right
        rw [hr, h]
        show Wb b = true
        simpa using hb
    have hne : g ≠ [] := by
      rw [hg, List.takeWhile_cons]
      have : Wb a = false := hh
      simp [this]
    obtain ⟨k1, k2⟩ := gap_parted g r hne hn hrw
    have hlen : r.length ≤ d := by
      have := congrArg List.length e
      rw [List.length_append, List.length_cons] at this
      have hg1 : 0 < g.length := List.length_pos_iff.2 hne
      simp only [List.length_cons] at hl
      omega
    have eA : A (a :: l) [] = (g.all pQ && A r g) := by rw [e, A_gap g [] r hn, List.nil_append]
    have eP : pL (d + 1) (a :: l) true = bif (partedL (g ++ r)).2 then pL d ((partedL (g ++ r)).1.dropWhile Wb) (headW (partedL (g ++ r)).1) else false := by rw [← e]; rfl
    rw [eA, eP]
    cases ho : okGap g with
    | true =>
      rw [k1 ho, okGap_pQ ho]
      simp only [cond_true, Bool.true_and]
      cases r with
      | nil =>
        rw [show headW [] = false from rfl, pL_false]
        cases g with
        | nil => exact absurd rfl hne
        | cons x g => rfl
      | cons b r =>
        have hb : Wb b = true := by
          rcases hrw with h | h
          · cases h
          · exact h
        rw [show headW (b :: r) = Wb b from rfl, hb, List.dropWhile_cons, hb]
        simp only [if_true]
        rw [A, hb, cond_true, ho, Bool.true_and, ← A_words r]
        have hh2 : headW (r.dropWhile Wb) = false := by
          rcases dropW_head Wb r with h | ⟨b, t, h, hb⟩
          · rw [h]; rfl
          · rw [h]; exact hb
        refine pL_A d _ ?_ hh2
        have := (List.dropWhile_sublist Wb (l := r)).length_le
        simp only [List.length_cons] at hlen
        omega
    | false =>
      have hz : A r g = false := by
        cases r with
        | nil =>
          cases g with
          | nil => exact absurd rfl hne
          | cons x g => rfl
        | cons b r =>
          have hb : Wb b = true := by
            rcases hrw with h | h
            · cases h
            · exact h
          rw [A, hb, cond_true, ho, Bool.false_and]
      rw [hz, Bool.and_false]
      cases hp : (partedL (g ++ r)).2 with
      | true => rw [k2 ho hp, cond_true, pL_false]
      | false => rfl
theorem partPS_A (s : ByteArray) : partPS s = (headW (li s) && A (li s) []) := by
  rw [partPS_list]
  cases h : headW (li s) with
  | false => rw [pL_false]; rfl
  | true =>
    have hh2 : headW ((li s).dropWhile Wb) = false := by
      rcases dropW_head Wb (li s) with h | ⟨b, t, h, hb⟩
      · rw [h]; rfl
      · rw [h]; exact hb
    rw [pL_A _ _ (by rw [← li_size]; exact (List.dropWhile_sublist Wb).length_le) hh2, A_words]
    rfl
theorem one_word (s : ByteArray) (i : Nat) (hi : i < (li s).length) : ofS (s.extract i (i + 1)) wordT = Wb ((li s)[i]) := by
  have e : li (s.extract i (i + 1)) = [(li s)[i]] := by
    rw [li_extract, List.drop_take, show i + 1 - i = 1 by omega, List.drop_eq_getElem_cons hi]; rfl
  rw [Bool.eq_iff_iff, ofS_bytes (p := wb) wordT_cls, e]
  simp [Wb]
theorem partFrom_R (s : ByteArray) : ∀ (d i : Nat) (g : ByteArray), i + d = s.size → partFrom s d i g = R ((li s).drop i) (li g)
  | 0, i, g, h => by
    rw [List.drop_of_length_le (by rw [li_size]; omega)]
    rfl
  | d + 1, i, g, h => by
    have hi : i < (li s).length := by rw [li_size]; omega
    have e : li (s.extract i (i + 1)) = [(li s)[i]] := by
      rw [li_extract, List.drop_take, show i + 1 - i = 1 by omega, List.drop_eq_getElem_cons hi]; rfl
    unfold partFrom
    rw [List.drop_eq_getElem_cons hi, R, one_word s i hi, partFrom_R s d (i + 1) _ (by omega), partFrom_R s d (i + 1) _ (by omega), li_append, e, ofL_li]
theorem partS_A (s : ByteArray) : partS s = (headW (li s) && A (li s) []) := by
  unfold partS
  have h0 := isS_nil s
  cases hl : li s with
  | nil =>
    rw [h0.2 hl]
    rfl
  | cons a l =>
    have h1 : isS s [] = false := by
      cases h : isS s [] with
      | false => rfl
      | true => rw [h0.1 h] at hl; cases hl
    have hsz : s.size = l.length + 1 := by rw [← li_size, hl]; rfl
    have hp : ofS s partT = (li s).all pQ := by
      rw [Bool.eq_iff_iff, ofS_bytes (p := partQ) partT_cls, List.all_eq_true]
      exact Iff.rfl
    have hf : ofS (s.extract 0 1) wordT = headW (li s) := by
      have := one_word s 0 (by rw [hl]; simp)
      rw [this]
      simp [hl, headW]
    have hla : ofS (s.extract (s.size - 1) s.size) wordT = lastOK (li s) [] := by
      have := one_word s (s.size - 1) (by rw [li_size]; omega)
      rw [show s.size - 1 + 1 = s.size by omega] at this
      have hk : s.size - 1 < (li s).length := by rw [li_size]; omega
      have hq : (li s).getLast? = some ((li s)[s.size - 1]) := by
        have e1 : (li s).length - 1 = s.size - 1 := by rw [li_size]
        rw [List.getLast?_eq_getElem?, e1, List.getElem?_eq_getElem hk]
      rw [this]
      unfold lastOK
      rw [hq]
    rw [h1, hp, hf, hla, partFrom_R s s.size 0 _ (Nat.zero_add _), List.drop_zero, ← hl, A_ref (li s) []]
    rw [show li (ByteArray.mk #[]) = [] from rfl]
    cases (li s).all pQ <;> cases headW (li s) <;> cases lastOK (li s) [] <;> cases R (li s) [] <;> rfl
theorem part_same (s : ByteArray) : partPS s = partS s := (partPS_A s).trans (partS_A s).symm
theorem path_same (s : ByteArray) : pathPS s = pathS s := by
  unfold pathPS pathS
  rw [pathAll_all _ _ _ (Nat.zero_add _), List.drop_zero, splitS_cut 47 s]
  have : partPS = partS := funext part_same
  rw [this]
  rfl
end Go.Proofs.YtofcjkbgieenlaaDoor.PM

namespace Go.Proofs.YtofcjkbgieenlaaDoor.PM
open Go Go.Proofs Go.Proofs.YtofcjkbgieenlaaDoor.Hand
set_option maxRecDepth 100000
set_option linter.unusedVariables false
set_option linter.unusedSimpArgs false

theorem ib_spec (c : UInt8) : ∀ l : List UInt8, (Lib.indexByte l c = -1 ∧ c ∉ l) ∨ ∃ i : Nat, Lib.indexByte l c = (i : Int) ∧ i < l.length ∧ l = l.take i ++ c :: l.drop (i + 1) ∧ c ∉ l.take i
  | [] => .inl ⟨rfl, List.not_mem_nil⟩
  | a :: l => by
    have e : Lib.indexByte (a :: l) c = if a == c then 0 else if Lib.indexByte l c == -1 then -1 else Lib.indexByte l c + 1 := rfl
    cases ha : a == c with
    | true =>
      right
      rw [e, ha]
      refine ⟨0, rfl, by simp, ?_, by simp⟩
      rw [beq_iff_eq.1 ha]
      rfl
    | false =>
      have hne := beq_eq_false_iff_ne.1 ha
      rw [e, ha]
      rcases ib_spec c l with ⟨h1, h2⟩ | ⟨i, h1, h2, h3, h4⟩
      · left
        rw [h1]
        refine ⟨rfl, fun h => ?_⟩
        rcases List.mem_cons.1 h with h | h
        · exact hne h.symm
        · exact h2 h
      · right
        rw [h1]
        have hb : ((i : Int) == -1) = false := by rw [beq_eq_false_iff_ne]; omega
        refine ⟨i + 1, by rw [hb]; simp, by simp; omega, ?_, fun h => ?_⟩
        · rw [List.take_succ_cons, List.drop_succ_cons, List.cons_append]
          exact congrArg _ h3
        · rw [List.take_succ_cons] at h
          rcases List.mem_cons.1 h with h | h
          · exact hne h.symm
          · exact h4 h
theorem cut_true {s : ByteArray} {c : UInt8} (h : cutF s c = true) : li s = li (cutA s c) ++ c :: li (cutZ s c) ∧ c ∉ li (cutA s c) := by
  unfold cutA cutZ
  rw [h, cond_true, cond_true]
  unfold cutF at h
  have h := of_decide_eq_true h
  rcases ib_spec c (li s) with ⟨h1, _⟩ | ⟨i, h1, h2, h3, h4⟩
  · have h1' : Lib.indexByte s.data.toList c = -1 := h1
    omega
  · have h1' : Lib.indexByte s.data.toList c = (i : Int) := h1
    rw [h1', Int.toNat_natCast, li_extract, li_extract, List.drop_zero, List.take_of_length_le (l := li s) (i := s.size) (by rw [li_size]; exact Nat.le_refl _)]
    exact ⟨h3, h4⟩
theorem cutF_iff (s : ByteArray) (c : UInt8) : cutF s c = true ↔ c ∈ li s := by
  refine ⟨cutF_mem, fun h => ?_⟩
  unfold cutF
  rcases ib_spec c (li s) with ⟨_, h2⟩ | ⟨i, h1, _⟩
  · exact absurd h h2
  · exact decide_eq_true (by have h1' : Lib.indexByte s.data.toList c = (i : Int) := h1; omega)
theorem hasSlash_cut (s : ByteArray) : hasSlash s = cutF s 47 := by unfold hasSlash cutF; rfl
theorem len_cut (s : ByteArray) (c : UInt8) : decide (((cutAll s (c.toNat : Int)).length : Int) > 1) = cutF s c := by
  rw [cutAll_cut]
  cases cutF s c with
  | false => rfl
  | true =>
    have := (cutAll_len (cutZ s c) (c.toNat : Int)).1
    rw [cond_true, List.length_cons]
    exact decide_eq_true (by omega)
theorem first_cut (s : ByteArray) (c : UInt8) : (cutAll s (c.toNat : Int)).getD 0 (ByteArray.mk #[]) = cutA s c := by
  rw [cutAll_cut]
  cases cutF s c <;> rfl
theorem hasDot_iff (s : ByteArray) : hasDot s = (cutF s 46 || cutF s 58) := by
  have key : ∀ l : List UInt8, Lib.indexAny l two58 ≥ 0 ↔ (46 : UInt8) ∈ l ∨ (58 : UInt8) ∈ l := fun l => by
    induction l with
    | nil => simp [Lib.indexAny]
    | cons a l ih =>
      rw [ia_cons, ih]
      have : two58.contains a = true ↔ a = 46 ∨ a = 58 := by
        rw [List.contains_iff_mem]
        simp
      rw [this]
      simp only [List.mem_cons]
      constructor
      · rintro ((h | h) | (h | h))
        · exact .inl (.inl h.symm)
        · exact .inr (.inl h.symm)
        · exact .inl (.inr h)
        · exact .inr (.inr h)
      · rintro ((h | h) | (h | h))
        · exact .inl (.inl h.symm)
        · exact .inr (.inl h)
        · exact .inl (.inr h.symm)
        · exact .inr (.inr h)
  rw [Bool.eq_iff_iff, Bool.or_eq_true, cutF_iff, cutF_iff]
  unfold hasDot
  rw [decide_eq_true_eq]
  exact key _
theorem toldS_eq (s : ByteArray) : toldS s = (hasDot s || isS s [108, 111, 99, 97, 108, 104, 111, 115, 116]) := by unfold toldS; rfl
theorem front_split (s : ByteArray) : frontS s = splitD s := by
  have h1 := len_cut s 47
  have h2 := first_cut s 47
  rw [show ((47 : UInt8).toNat : Int) = 47 from rfl] at h1 h2
  have h3 := len_cut (cutA s 47) 46
  have h4 := len_cut (cutA s 47) 58
  rw [show ((46 : UInt8).toNat : Int) = 46 from rfl] at h3
  rw [show ((58 : UInt8).toNat : Int) = 58 from rfl] at h4
  unfold frontS splitD
  rw [h2, h1, h3, h4, toldS_eq, hasDot_iff, Bool.or_assoc]
theorem told_empty {s : ByteArray} (h : toldS s = true) : isS s [] = false := by
  cases h0 : isS s [] with
  | false => rfl
  | true =>
    have : s = ⟨#[]⟩ := li_inj ((isS_nil s).1 h0)
    subst this
    exact absurd h (by rw [show toldS ⟨#[]⟩ = false from by kernel_rfl]; simp)
theorem spl_mem {c b : UInt8} : ∀ {l : List UInt8}, b ∈ l → b = c ∨ ∃ x ∈ spl c l, b ∈ x
  | a :: l, h => by
    unfold spl
    by_cases ha : a = c
    · rw [if_pos ha]
      rcases List.mem_cons.1 h with h | h
      · exact .inl (h.trans ha)
      · rcases spl_mem (c := c) h with h | ⟨x, h1, h2⟩
        · exact .inl h
        · exact .inr ⟨x, List.mem_cons_of_mem _ h1, h2⟩
    · rw [if_neg ha]
      cases hs : spl c l with
      | nil => exact absurd hs (spl_ne c l)
      | cons y t =>
        rcases List.mem_cons.1 h with h | h
        · exact .inr ⟨a :: y, List.mem_cons_self, by rw [h]; exact List.mem_cons_self⟩
        · rcases spl_mem (c := c) h with h | ⟨x, h1, h2⟩
          · exact .inl h
          · rw [hs] at h1
            rcases List.mem_cons.1 h1 with rfl | h1
            · exact .inr ⟨a :: x, List.mem_cons_self, List.mem_cons_of_mem _ h2⟩
            · exact .inr ⟨x, List.mem_cons_of_mem _ h1, h2⟩
theorem label_noSlash {x : ByteArray} (h : labelB x = true) : (47 : UInt8) ∉ li x := by
  intro hm
  rw [labelB_bad] at h
  unfold badLabel at h
  have h2 : ofS x allT = true := by
    cases ho : ofS x allT with
    | true => rfl
    | false => rw [ho] at h; simp at h
  exact absurd ((ofS_bytes (p := allP) allT_cls x).1 h2 47 hm) (by decide)
theorem domain_noSlash {d : ByteArray} (h : domainPS d = true) : (47 : UInt8) ∉ li d := by
  unfold domainPS at h
  have labs : ∀ y : ByteArray, (splitS 46 y).all labelB = true → (47 : UInt8) ∉ li y := fun y hy hm => by
    rcases spl_mem (c := 46) hm with hc | ⟨x, h1, h2⟩
    · exact absurd hc (by decide)
    · have : bs x ∈ splitS 46 y := by
        unfold splitS
        rw [splitB_spl]
        exact List.mem_map_of_mem h1
      exact label_noSlash (List.all_eq_true.1 hy _ this) h2
  cases hf : cutF d 58 with
  | false =>
    rw [hf, Bool.false_and, cond_false, cutA_none hf] at h
    exact labs d h
  | true =>
    rw [hf, Bool.true_and] at h
    cases hp : portS (cutZ d 58) with
    | false => rw [hp] at h; simp at h
    | true =>
      rw [hp, Bool.not_true, cond_false] at h
      obtain ⟨e, _⟩ := cut_true hf
      intro hm
      rw [e] at hm
      rcases List.mem_append.1 hm with hm | hm
      · exact labs _ h hm
      · rcases List.mem_cons.1 hm with hm | hm
        · exact absurd hm (by decide)
        · rw [portS_ref] at hp
          have h2 : ofS (cutZ d 58) tenT = true := by
            cases ho : ofS (cutZ d 58) tenT with
            | true => rfl
            | false => rw [ho] at hp; simp at hp
          exact absurd ((ofS_bytes tenT_cls _).1 h2 47 hm) (by decide)
/-- A text ahead of a byte that it has not. -/
theorem cut_app (d z : ByteArray) (c : UInt8) (h : c ∉ li d) : cutF (d ++ ⟨#[c]⟩ ++ z) c = true ∧ cutA (d ++ ⟨#[c]⟩ ++ z) c = d ∧ cutZ (d ++ ⟨#[c]⟩ ++ z) c = z := by
  have hl : li (d ++ ⟨#[c]⟩ ++ z) = li d ++ c :: li z := by
    rw [li_append, li_append]
    simp [li]
  have hf : cutF (d ++ ⟨#[c]⟩ ++ z) c = true := (cutF_iff _ _).2 (by rw [hl]; simp)
  obtain ⟨e, hn⟩ := cut_true hf
  rw [hl] at e
  have uniq : ∀ (a b x y : List UInt8), c ∉ a → c ∉ b → a ++ c :: x = b ++ c :: y → a = b ∧ x = y := by
    intro a
    induction a with
    | nil =>
      intro b x y _ hb he
      cases b with
      | nil => simpa using he
      | cons b0 b =>
        simp only [List.nil_append, List.cons_append, List.cons.injEq] at he
        exact absurd (by rw [he.1]; exact List.mem_cons_self) hb
    | cons a0 a ih =>
      intro b x y ha hb he
      cases b with
      | nil =>
        simp only [List.nil_append, List.cons_append, List.cons.injEq] at he
        exact absurd (by rw [← he.1]; exact List.mem_cons_self) ha
      | cons b0 b =>
        simp only [List.cons_append, List.cons.injEq] at he
        obtain ⟨h1, h2⟩ := ih b x y (fun h => ha (List.mem_cons_of_mem _ h)) (fun h => hb (List.mem_cons_of_mem _ h)) he.2
        exact ⟨by rw [he.1, h1], h2⟩
  obtain ⟨e1, e2⟩ := uniq _ _ _ _ h hn e
  exact ⟨hf, (li_inj e1).symm, (li_inj e2).symm⟩
theorem front_domain {d : ByteArray} (h : domainPS d = true) : isS (frontS (d ++ ⟨#[47]⟩)) [] = !toldS d := by
  have hn := domain_noSlash h
  have hz : d ++ ⟨#[47]⟩ = d ++ ⟨#[47]⟩ ++ ⟨#[]⟩ := li_inj (by rw [li_append (d ++ ⟨#[47]⟩)]; simp [li])
  obtain ⟨c1, c2, c3⟩ := cut_app d ⟨#[]⟩ 47 hn
  rw [front_split, hz]
  unfold splitD
  rw [c1, c2, Bool.true_and]
  cases ht : toldS d with
  | true => rw [cond_true, told_empty ht]; rfl
  | false => exact (isS_nil _).2 rfl
theorem len2 (p : ByteArray) : decide (((cutAll p 47).length : Int) < 2) = !hasSlash p := by
  have h := len_cut p 47
  rw [show ((47 : UInt8).toNat : Int) = 47 from rfl] at h
  rw [hasSlash_cut, ← h, ← decide_not]
  exact decide_eq_decide.2 (by omega)
theorem check_same (r : RefT) : checkS r = rcheckS r := by
  unfold checkS rcheckS
  rw [← domain_same, ← path_same]
  cases hd : domainPS r.d with
  | false => rfl
  | true =>
    rw [front_domain hd, len2]
    have htag : isS r.t [] = false → tagS r.t = !(decide ((r.t.size : Int) > 32) || (!ofS r.t tagT || (bt r.t 0 == 46 || bt r.t 0 == 45))) := tagS_ref r.t
    unfold taggedS knownS
    cases h0 : isS r.t [] with
    | true =>
      cases pathPS r.p <;> cases toldS r.d <;> cases isS r.d [105, 110, 100, 101, 120, 46, 100, 111, 99, 107, 101, 114, 46, 105, 111] <;> cases isS r.d [100, 111, 99, 107, 101, 114, 46, 105, 111] <;> cases hasSlash r.p <;> cases r.b <;> cases eqD r.x zerosI <;> cases decide (((textS tellS r).size : Int) > 200) <;> rfl
    | false =>
      rw [htag h0]
      cases (decide ((r.t.size : Int) > 32) || (!ofS r.t tagT || (bt r.t 0 == 46 || bt r.t 0 == 45))) <;> cases pathPS r.p <;> cases toldS r.d <;> cases isS r.d [105, 110, 100, 101, 120, 46, 100, 111, 99, 107, 101, 114, 46, 105, 111] <;> cases isS r.d [100, 111, 99, 107, 101, 114, 46, 105, 111] <;> cases hasSlash r.p <;> cases r.b <;> cases eqD r.x zerosI <;> cases decide (((textS tellS r).size : Int) > 200) <;> rfl
end Go.Proofs.YtofcjkbgieenlaaDoor.PM

namespace Go.Proofs.YtofcjkbgieenlaaDoor.PM
open Go Go.Proofs Go.Proofs.YtofcjkbgieenlaaDoor.Hand
set_option maxRecDepth 100000
set_option linter.unusedVariables false
set_option linter.unusedSimpArgs false

theorem uniq_cut {c : UInt8} : ∀ (a b x y : List UInt8), c ∉ a → c ∉ b → a ++ c :: x = b ++ c :: y → a = b ∧ x = y
  | [], [], x, y, _, _, he => by simpa using he
  | [], b0 :: b, x, y, _, hb, he => by
    simp only [List.nil_append, List.cons_append, List.cons.injEq] at he
    exact absurd (by rw [he.1]; exact List.mem_cons_self) hb
  | a0 :: a, [], x, y, ha, _, he => by
    simp only [List.nil_append, List.cons_append, List.cons.injEq] at he
    exact absurd (by rw [← he.1]; exact List.mem_cons_self) ha
  | a0 :: a, b0 :: b, x, y, ha, hb, he => by
    simp only [List.cons_append, List.cons.injEq] at he
    obtain ⟨h1, h2⟩ := uniq_cut a b x y (fun h => ha (List.mem_cons_of_mem _ h)) (fun h => hb (List.mem_cons_of_mem _ h)) he.2
    exact ⟨by rw [he.1, h1], h2⟩
theorem text_same (r : RefT) : ptextS r = rtextS r := by
  unfold ptextS rtextS
  rw [check_same]
theorem textS_li (tell : List Int → ByteArray) (r : RefT) : ∃ z, li (textS tell r) = li r.d ++ 47 :: (li r.p ++ z) := by
  unfold textS
  cases isS r.t [] <;> cases r.b <;> simp only [Bool.not_false, Bool.not_true, cond_true, cond_false, li_append, List.append_assoc]
  · exact ⟨_, rfl⟩
  · exact ⟨_, rfl⟩
  · exact ⟨[], by simp [li]⟩
  · exact ⟨_, rfl⟩
theorem isS_li (s : ByteArray) (l : List UInt8) : isS s l = true ↔ li s = l := by
  have := isS_list (li s) l
  rw [ofL_li] at this
  exact this
theorem prefix_cut {s : ByteArray} {w : List UInt8} (hw : (47 : UInt8) ∉ w) : List.isPrefixOf (w ++ [47]) (li s) = (cutF s 47 && isS (cutA s 47) w) := by
  rw [Bool.eq_iff_iff, Bool.and_eq_true, isS_li, List.isPrefixOf_iff_prefix]
  constructor
  · rintro ⟨y, hy⟩
    have hy' : w ++ 47 :: y = li s := by rw [← hy]; simp
    have hf : cutF s 47 = true := (cutF_iff _ _).2 (by rw [← hy']; simp)
    obtain ⟨e, hn⟩ := cut_true hf
    rw [e] at hy'
    exact ⟨hf, (uniq_cut _ _ _ _ hw hn hy').1.symm⟩
  · rintro ⟨hf, hA⟩
    obtain ⟨e, hn⟩ := cut_true hf
    rw [hA] at e
    exact ⟨li (cutZ s 47), by rw [e]; simp⟩
theorem check_domain {r : RefT} (h : (checkS r != 0) = false) : domainPS r.d = true := by
  cases hd : domainPS r.d with
  | true => rfl
  | false =>
    unfold checkS at h
    rw [hd] at h
    simp only [Bool.not_false, Bool.true_or, cond_true] at h
    exact absurd h (by decide)
theorem untag_dp (r : RefT) : (untag r).d = r.d ∧ (untag r).p = r.p := by
  unfold untag
  cases isS r.t [108, 97, 116, 101, 115, 116] && !r.b <;> exact ⟨rfl, rfl⟩
theorem tp_drop {s t : ByteArray} (h : hpS s t = true) : tpS s t = s.extract t.size s.size := by
  apply li_inj
  have e : li (tpS s t) = (li s).drop (li t).length := by
    show Lib.trimPrefix (li s) (li t) = _
    unfold Lib.trimPrefix
    rw [if_pos h]
  rw [e, li_extract, List.take_of_length_le (by rw [li_size]; exact Nat.le_refl _), li_size]
theorem lib_cut (p : ByteArray) : (((cutAll p 47).length : Int) == 2 && isS ((cutAll p 47).getD 0 (ByteArray.mk #[])) [108, 105, 98, 114, 97, 114, 121]) = (hpS p libT && !hasSlash (tpS p libT)) := by
  have h2 := first_cut p 47
  have e := cutAll_cut p 47
  have e2 := cutAll_cut (cutZ p 47) 47
  rw [show ((47 : UInt8).toNat : Int) = 47 from rfl] at h2 e e2
  have hp : hpS p libT = (cutF p 47 && isS (cutA p 47) [108, 105, 98, 114, 97, 114, 121]) := prefix_cut (s := p) (w := [108, 105, 98, 114, 97, 114, 121]) (by decide)
  have hlen : (((cutAll p 47).length : Int) == 2) = (cutF p 47 && !cutF (cutZ p 47) 47) := by
    rw [e]
    cases cutF p 47 with
    | false => rfl
    | true =>
      rw [cond_true, List.length_cons, e2]
      cases cutF (cutZ p 47) 47 with
      | false => rfl
      | true =>
        have := (cutAll_len (cutZ (cutZ p 47) 47) 47).1
        rw [cond_true, List.length_cons, Bool.not_true, Bool.and_false, beq_eq_false_iff_ne]
        omega
  rw [h2, hlen, hp]
  cases hf : cutF p 47 with
  | false => rfl
  | true =>
    cases hA : isS (cutA p 47) [108, 105, 98, 114, 97, 114, 121] with
    | false => simp
    | true =>
      obtain ⟨ee, hn⟩ := cut_true hf
      have hpp : hpS p libT = true := by rw [hp, hf, hA]; rfl
      have et : tpS p libT = cutZ p 47 := by
        apply li_inj
        have e3 : li (tpS p libT) = (li p).drop 8 := by
          show Lib.trimPrefix (li p) (li libT) = _
          unfold Lib.trimPrefix
          rw [if_pos hpp]
          rfl
        rw [e3, ee, (isS_li _ _).1 hA]
        rfl
      rw [et, hasSlash_cut]
      simp
theorem short_same (r : RefT) : pshortS r = rshortS r := by
  unfold pshortS rshortS
  rw [← check_same]
  cases hc : checkS r != 0 with
  | true => rfl
  | false =>
    have hd := check_domain hc
    obtain ⟨u1, u2⟩ := untag_dp r
    obtain ⟨z, hz⟩ := textS_li tellS (untag r)
    rw [u1, u2] at hz
    have hn := domain_noSlash hd
    simp only [cond_false]
    obtain ⟨s, hs⟩ : ∃ s, s = textS tellS (untag r) := ⟨_, rfl⟩
    rw [← hs] at hz ⊢
    have hcut : cutF s 47 = true := (cutF_iff _ _).2 (by rw [hz]; simp)
    have hA : cutA s 47 = r.d := by
      obtain ⟨e, hn2⟩ := cut_true hcut
      rw [hz] at e
      exact li_inj (uniq_cut _ _ _ _ hn hn2 e).1.symm
    have hp : hpS s hubT = isS r.d [100, 111, 99, 107, 101, 114, 46, 105, 111] := by
      have := prefix_cut (s := s) (w := [100, 111, 99, 107, 101, 114, 46, 105, 111]) (by decide)
      rw [hcut, hA, Bool.true_and] at this
      exact this
    unfold shortOf
    rw [hp]
    cases hh : isS r.d [100, 111, 99, 107, 101, 114, 46, 105, 111] with
    | false => rfl
    | true =>
      rw [hh] at hp
      have et : tpS s hubT = s.extract 10 s.size := tp_drop hp
      have et2 : (tpS s hubT).extract 8 (tpS s hubT).size = s.extract 18 s.size := by
        rw [et]
        apply li_inj
        have hall : ∀ (t : ByteArray) (a : Nat), li (t.extract a t.size) = (li t).drop a := fun t a => by
          rw [li_extract, List.take_of_length_le (by rw [li_size]; exact Nat.le_refl _)]
        rw [hall, hall, hall, List.drop_drop]
      simp only [Bool.not_true, cond_false]
      rw [et2, et, Bool.decide_eq_true, lib_cut, front_split]
theorem same (r : RefT) : SameR r := ⟨check_same r, text_same r, short_same r⟩
end Go.Proofs.YtofcjkbgieenlaaDoor.PM

namespace Go.Proofs.YtofcjkbgieenlaaDoor.PM
open Go Go.Proofs Go.Proofs.YtofcjkbgieenlaaDoor.Hand
set_option maxRecDepth 100000
set_option linter.unusedVariables false
set_option linter.unusedSimpArgs false

theorem check_two (r : RefT) : checkS r = 0 ∨ checkS r = 10 := by
  unfold checkS
  generalize (!domainPS r.d || (!pathPS r.p || (!taggedS r || (!(r.b || eqD r.x zerosI) || (!knownS r || decide (((textS tellS r).size : Int) > 200)))))) = b
  cases b
  · exact .inl rfl
  · exact .inr rfl
theorem end_same (r : RefT) : pend r = rend r := by
  unfold pend rend
  rw [← check_same]
  rcases check_two r with h | h <;> rw [h] <;> rfl
theorem len1 (p : ByteArray) : (((cutAll p 47).length : Int) == 1) = !hasSlash p := by
  have h := len2 p
  have hl := (cutAll_len p 47).1
  rw [← h]
  by_cases h1 : (cutAll p 47).length = 1
  · rw [h1]; rfl
  · rw [decide_eq_false (by omega), beq_eq_false_iff_ne]
    omega
theorem fin_same (d p t : ByteArray) (x : List Int) (b : Bool) : pfin d p t x b = rfin d p t x b := by
  unfold pfin rfin
  rw [end_same, end_same, len1]
theorem cutZ_extract {s : ByteArray} {c : UInt8} (h : cutF s c = true) : s.extract ((cutA s c).size + 1) s.size = cutZ s c := by
  obtain ⟨e, _⟩ := cut_true h
  apply li_inj
  rw [li_extract, List.take_of_length_le (by rw [li_size]; exact Nat.le_refl _), ← li_size (cutA s c)]
  have e2 : li s = (li (cutA s c) ++ [c]) ++ li (cutZ s c) := by rw [e]; simp
  rw [e2, List.drop_append_of_le_length (by simp)]
  simp
theorem mid_same (name t : ByteArray) (x : List Int) (b : Bool) : pmid name t x b = rmid name t x b := by
  unfold pmid rmid rdom
  rw [front_split]
  simp only [fin_same]
  cases hc : cutF name 47 && toldS (cutA name 47) with
  | false =>
    have hd : splitD name = ⟨#[]⟩ := by unfold splitD; rw [hc]; rfl
    have hr : splitR name = name := by unfold splitR; rw [hc]; rfl
    have he : isS (ByteArray.mk #[]) [] = true := (isS_nil _).2 rfl
    rw [hd, hr, he]
    rfl
  | true =>
    have hc' := hc
    rw [Bool.and_eq_true] at hc'
    have hd : splitD name = cutA name 47 := by unfold splitD; rw [hc]; rfl
    have hr : splitR name = cutZ name 47 := by unfold splitR; rw [hc]; rfl
    rw [hd, hr, told_empty hc'.2, cutZ_extract hc'.1]
    rfl
theorem get_li (s : ByteArray) (i : Nat) (h : i < s.size) : s.data[i]! = (li s)[i]'(by rw [li_size]; exact h) := by
  have h2 : i < s.data.size := h
  rw [getElem!_pos s.data i h2]
  simp [li]
theorem last_spec (s : ByteArray) : (Lib.lastIndexByte s 58 = -1 ∧ (58 : UInt8) ∉ li s) ∨
    ∃ i : Nat, Lib.lastIndexByte s 58 = (i : Int) ∧ i < s.size ∧ li s = (li s).take i ++ 58 :: (li s).drop (i + 1) ∧ (58 : UInt8) ∉ (li s).drop (i + 1) := by
  have back : ∀ b : UInt8, ((b.toNat : Nat) : Int) = 58 → b = 58 := fun b h => UInt8.toNat_inj.1 (by show b.toNat = 58; omega)
  rcases Lib.lastIdx_spec s 58 s.size with ⟨h, hn⟩ | ⟨i, h1, h2, h3, h4⟩
  · left
    refine ⟨h, fun hm => ?_⟩
    obtain ⟨j, hj, e⟩ := List.getElem_of_mem hm
    have hj' : j < s.size := by rw [← li_size]; exact hj
    have := hn j hj'
    rw [get_li s j hj', e] at this
    exact this rfl
  · right
    have hi : i < (li s).length := by rw [li_size]; exact h1
    rw [get_li s i h1] at h3
    have e := back _ h3
    refine ⟨i, h2, h1, ?_, fun hm => ?_⟩
    · rw [← e, ← List.drop_eq_getElem_cons hi, List.take_append_drop]
    · obtain ⟨j, hj, ej⟩ := List.getElem_of_mem hm
      rw [List.length_drop, li_size] at hj
      have := h4 (i + 1 + j) (by omega) (by omega)
      rw [get_li s (i + 1 + j) (by omega)] at this
      rw [List.getElem_drop] at ej
      rw [ej] at this
      exact this rfl
theorem tag_same (name : ByteArray) (x : List Int) (b : Bool) : ptag name x b = rtag name x b := by
  unfold ptag rtag
  simp only [mid_same, lastI]
  have hcut := cutAll_spl name 58
  rw [show ((58 : UInt8).toNat : Int) = 58 from rfl] at hcut
  have hall : ∀ (t : ByteArray) (a : Nat), li (t.extract a t.size) = (li t).drop a := fun t a => by
    rw [li_extract, List.take_of_length_le (by rw [li_size]; exact Nat.le_refl _)]
  rcases last_spec name with ⟨h1, h2⟩ | ⟨i, h1, h2, h3, h4⟩
  · have e : cutAll name 58 = [name] := by rw [hcut, spl_none h2]; simp
    simp only [h1]
    rw [e]
    rfl
  · have hs := spl_last h4 ((li name).take i)
    rw [← h3] at hs
    have hpos : 0 < (spl 58 ((li name).take i)).length := List.length_pos_iff.2 (spl_ne _ _)
    have hlen : (cutAll name 58).length = (spl 58 ((li name).take i)).length + 1 := by rw [hcut, hs]; simp
    have hlast : lastOf name = name.extract (i + 1) name.size := by
      unfold lastOf
      rw [hlen, Nat.add_sub_cancel, hcut, hs, List.map_append, List.getD_eq_getElem?_getD, List.getElem?_append_right (by simp), List.length_map, Nat.sub_self]
      apply li_inj
      rw [hall]
      rfl
    have hge : (i : Int) ≥ 0 := by omega
    simp only [h1, hge, decide_true, Int.toNat_natCast]
    rw [hlen, decide_eq_true (by omega : (((spl 58 ((li name).take i)).length + 1 : Nat) : Int) > 1), len1, hlast]
    have hsl : hasSlash (name.extract i name.size) = hasSlash (name.extract (i + 1) name.size) := by
      rw [hasSlash_cut, hasSlash_cut, Bool.eq_iff_iff, cutF_iff, cutF_iff, hall, hall]
      have hi : i < (li name).length := by rw [li_size]; exact h2
      have ed : (li name).drop i = 58 :: (li name).drop (i + 1) := by
        have hti : ((li name).take i).length = i := by rw [List.length_take]; omega
        have hx : (li name)[i]? = some 58 := by
          have hx : (li name)[i]? = ((li name).take i ++ 58 :: (li name).drop (i + 1))[i]? := congrArg (fun l : List UInt8 => l[i]?) h3
          rw [hx, List.getElem?_append_right (by omega), hti, Nat.sub_self]
          rfl
        rw [List.getElem?_eq_getElem hi] at hx
        rw [List.drop_eq_getElem_cons hi, Option.some.inj hx]
      rw [ed]
      constructor
      · intro h
        rcases List.mem_cons.1 h with h | h
        · exact absurd h (by decide)
        · exact h
      · exact fun h => List.mem_cons_of_mem _ h
    have hsz : name.size - (name.extract (i + 1) name.size).size - 1 = i := by
      rw [ByteArray.size_extract]
      omega
    rw [hsl, hsz]
theorem name_cut (s : ByteArray) : nameOf s = cutA s 64 := first_cut s 64
theorem parse_same (s : ByteArray) (hX : pparseX (cutZ s 64) = rparseX (cutZ s 64)) (hE : pparseE (cutZ s 64) = rparseE (cutZ s 64)) : pparse9 s = rparse12 s := by
  unfold pparse9 rparse12
  rw [name_cut]
  simp only [tag_same]
  cases hf : cutF s 64 with
  | false =>
    rw [cutA_none hf, decide_eq_false (by omega : ¬ (s.size : Int) < s.size)]
    rfl
  | true =>
    obtain ⟨e, _⟩ := cut_true hf
    have hlt : (cutA s 64).size < s.size := by
      have := congrArg List.length e
      rw [li_size, List.length_append, li_size, List.length_cons] at this
      omega
    have hp : pinOf s = cutZ s 64 := by unfold pinOf; rw [name_cut]; exact cutZ_extract hf
    rw [decide_eq_true (by omega : ((cutA s 64).size : Int) < s.size), hp, hX, hE]
end Go.Proofs.YtofcjkbgieenlaaDoor.PM

namespace Go.Proofs.YtofcjkbgieenlaaDoor.PM
open Go Go.Proofs Go.Proofs.YtofcjkbgieenlaaDoor.Hand
set_option maxRecDepth 100000
set_option linter.unusedVariables false
set_option linter.unusedSimpArgs false

/-- A digit's value. -/
def hv (b : UInt8) : Int := irH (b.toNat : Int)
theorem hv_tab : ((List.range 256).all fun n => decide (irH (n : Int) < 0) || (decide (n < 128) && (decide (0 ≤ irH (n : Int)) && (decide (irH (n : Int) < 16) && (hexB (irH (n : Int)) == UInt8.ofNat n))))) = true := by kernel_rfl
theorem hv_fact (b : UInt8) (h : ¬ hv b < 0) : b.toNat < 128 ∧ 0 ≤ hv b ∧ hv b < 16 ∧ hexB (hv b) = b := by
  have := List.all_eq_true.1 hv_tab b.toNat (List.mem_range.2 b.toNat_lt)
  rw [Bool.or_eq_true] at this
  rcases this with h2 | h2
  · exact absurd (of_decide_eq_true h2) h
  · simp only [Bool.and_eq_true, decide_eq_true_eq, beq_iff_eq] at h2
    refine ⟨h2.1, h2.2.1, h2.2.2.1, ?_⟩
    have := h2.2.2.2
    simpa [hv] using this
theorem hex_tab : ((List.range 16).all fun q => (hv (hexB (q : Int)) == (q : Int)) && (valS ((hexB (q : Int)).toNat : Int) == (q : Int))) = true := by kernel_rfl
theorem hex_fact (q : Int) (h0 : 0 ≤ q) (h1 : q < 16) : hv (hexB q) = q ∧ valS ((hexB q).toNat : Int) = q := by
  obtain ⟨n, rfl⟩ : ∃ n : Nat, q = (n : Int) := ⟨q.toNat, by omega⟩
  have := List.all_eq_true.1 hex_tab n (List.mem_range.2 (by omega))
  simpa using this
def stepL (pos : Nat) (b : UInt8) (x : List Int) : List Int := x.set (pos / 2) (IntKind.u8.wrap (IntKind.u8.wrap (x.getD (pos / 2) 0 * (2 : Int) ^ 4) + IntKind.u8.wrap (hv b)))
def pdL : List UInt8 → Nat → List Int → Option (List Int)
  | [], _, x => some x
  | b :: l, pos, x => bif decide (hv b < 0) then none else pdL l (pos + 1) (stepL pos b x)
theorem pd_list (s : ByteArray) : ∀ (d pos : Nat) (x : List Int), s.size ≤ pos + d → pd s (d + 1) pos x = pdL ((li s).drop pos) pos x := by
  have stop : ∀ (d pos : Nat) (x : List Int), ¬ pos < s.size → pd s (d + 1) pos x = pdL ((li s).drop pos) pos x := fun d pos x hp => by
    unfold pd
    rw [decide_eq_false hp, cond_false, List.drop_of_length_le (by rw [li_size]; omega)]
    rfl
  intro d
  induction d with
  | zero => exact fun pos x h => stop 0 pos x (by omega)
  | succ d ih =>
    intro pos x h
    by_cases hp : pos < s.size
    · have hl : pos < (li s).length := by rw [li_size]; exact hp
      rw [pd, decide_eq_true hp, cond_true, List.drop_eq_getElem_cons hl, pdL]
      by_cases hb : ((li s)[pos]).toNat < 128
      · have he : Utf8.decode s pos = (((li s)[pos]).toNat, 1) := decode_ascii s pos hp hb
        unfold pdStep
        rw [he]
        simp only
        rw [ih (pos + 1) _ (by omega)]
        rfl
      · have hh := (decode_high s pos hp (by show 128 ≤ ((li s)[pos]).toNat; omega)).1
        have n1 : irH ((Utf8.decode s pos).1 : Int) = -1 := by unfold irH; rw [decide_eq_false (by omega)]; rfl
        have n2 : hv ((li s)[pos]) = -1 := by unfold hv irH; rw [decide_eq_false (by omega)]; rfl
        rw [n1, n2]
        rfl
    · exact stop (d + 1) pos x hp
def H (xs : List Int) : List UInt8 := xs.flatMap fun c => [hexB (c / 16), hexB (c % 16)]
def zeroFrom (k : Nat) (x : List Int) : Prop := ∀ j, k ≤ j → x.getD j 0 = 0
theorem wrap8 {x : Int} (h0 : 0 ≤ x) (h1 : x < 256) : IntKind.u8.wrap x = x := by show x % 256 = x; omega
theorem two_steps (k : Nat) (a b : UInt8) (x : List Int) (hx : k < x.length) (hz : x.getD k 0 = 0) (ha : ¬ hv a < 0) (hb : ¬ hv b < 0) :
    stepL (2 * k + 1) b (stepL (2 * k) a x) = x.set k (16 * hv a + hv b) := by
  have a1 := hv_fact a ha
  have b1 := hv_fact b hb
  unfold stepL
  have e1 : (2 * k) / 2 = k := by omega
  have e2 : (2 * k + 1) / 2 = k := by omega
  rw [e1, e2, hz]
  have w1 : IntKind.u8.wrap (IntKind.u8.wrap (0 * (2 : Int) ^ 4) + IntKind.u8.wrap (hv a)) = hv a := by
    have z : IntKind.u8.wrap (0 * (2 : Int) ^ 4) = 0 := by decide
    rw [z, wrap8 (x := hv a) a1.2.1 (by omega), Int.zero_add, wrap8 (x := hv a) a1.2.1 (by omega)]
  rw [w1]
  have g : (x.set k (hv a)).getD k 0 = hv a := by
    rw [List.getD_eq_getElem?_getD, List.getElem?_set_self hx]; rfl
  rw [g, List.set_set]
  congr 1
  rw [wrap8 (x := hv b) b1.2.1 (by omega), show hv a * (2 : Int) ^ 4 = 16 * hv a by omega, wrap8 (x := 16 * hv a) (by omega) (by omega), wrap8 (by omega) (by omega)]
theorem set_take {x : List Int} {k : Nat} (v : Int) (hk : k < x.length) : (x.set k v).take (k + 1) = x.take k ++ [v] := by
  rw [List.take_add_one, List.take_set_of_le (Nat.le_refl k), List.getElem?_set_self hk]
  rfl
theorem zero_set {x : List Int} {k : Nat} (v : Int) (h : zeroFrom k x) : zeroFrom (k + 1) (x.set k v) := fun j hj => by
  have := h j (by omega)
  rw [List.getD_eq_getElem?_getD] at this ⊢
  rw [List.getElem?_set_ne (by omega)]
  exact this
theorem pdL_fwd : ∀ (xs : List Int) (k : Nat) (x : List Int), (∀ c ∈ xs, 0 ≤ c ∧ c < 256) → x.length = k + xs.length → zeroFrom k x → pdL (H xs) (2 * k) x = some (x.take k ++ xs)
  | [], k, x, _, hl, _ => by
    rw [List.take_of_length_le (by simp at hl; omega), List.append_nil]
    rfl
  | c :: xs, k, x, hc, hl, hz => by
    have hcc := hc c List.mem_cons_self
    have hk : k < x.length := by rw [hl, List.length_cons]; omega
    obtain ⟨q1, _⟩ := hex_fact (c / 16) (by omega) (by omega)
    obtain ⟨r1, _⟩ := hex_fact (c % 16) (by omega) (by omega)
    have e : H (c :: xs) = hexB (c / 16) :: hexB (c % 16) :: H xs := rfl
    have n1 : ¬ hv (hexB (c / 16)) < 0 := by rw [q1]; omega
    have n2 : ¬ hv (hexB (c % 16)) < 0 := by rw [r1]; omega
    rw [e, pdL, decide_eq_false n1, cond_false, pdL, decide_eq_false n2, cond_false, two_steps k _ _ x hk (hz k (Nat.le_refl k)) n1 n2, q1, r1]
    have ev : 16 * (c / 16) + c % 16 = c := by omega
    rw [ev, show 2 * k + 1 + 1 = 2 * (k + 1) by omega, pdL_fwd xs (k + 1) _ (fun y hy => hc y (List.mem_cons_of_mem _ hy)) (by rw [List.length_set, hl, List.length_cons]; omega) (zero_set c hz), set_take c hk]
    simp
theorem pdL_bwd : ∀ (n k : Nat) (x : List Int) (l : List UInt8) (y : List Int), l.length = 2 * n → x.length = k + n → zeroFrom k x → pdL l (2 * k) x = some y → ∃ xs : List Int, xs.length = n ∧ (∀ c ∈ xs, 0 ≤ c ∧ c < 256) ∧ l = H xs
  | 0, k, x, l, y, hl, _, _, _ => ⟨[], rfl, fun _ h => absurd h List.not_mem_nil, List.eq_nil_of_length_eq_zero (by omega)⟩
  | n + 1, k, x, l, y, hl, hx, hz, h => by
    match l, hl with
    | a :: b :: l, hl =>
      simp only [List.length_cons] at hl
      rw [pdL] at h
      by_cases ha : hv a < 0
      · rw [decide_eq_true ha] at h; cases h
      · rw [decide_eq_false ha, cond_false, pdL] at h
        by_cases hb : hv b < 0
        · rw [decide_eq_true hb] at h; cases h
        · have hk : k < x.length := by omega
          rw [decide_eq_false hb, cond_false, two_steps k a b x hk (hz k (Nat.le_refl k)) ha hb, show 2 * k + 1 + 1 = 2 * (k + 1) by omega] at h
          obtain ⟨xs, e1, e2, e3⟩ := pdL_bwd n (k + 1) _ l y (by omega) (by rw [List.length_set]; omega) (zero_set _ hz) h
          have a1 := hv_fact a ha
          have b1 := hv_fact b hb
          refine ⟨(16 * hv a + hv b) :: xs, by simp [e1], fun c hc => ?_, ?_⟩
          · rcases List.mem_cons.1 hc with rfl | hc
            · omega
            · exact e2 c hc
          · rw [e3]
            show a :: b :: H xs = hexB ((16 * hv a + hv b) / 16) :: hexB ((16 * hv a + hv b) % 16) :: H xs
            rw [show (16 * hv a + hv b) / 16 = hv a by omega, show (16 * hv a + hv b) % 16 = hv b by omega, a1.2.2.2, b1.2.2.2]
theorem H_hexN (xs : List Int) (h : xs.length = 32) : hexN xs 32 = H xs := by
  unfold hexN H
  rw [List.take_of_length_le (by omega)]
theorem H_len (xs : List Int) : (H xs).length = 2 * xs.length := by
  induction xs with
  | nil => rfl
  | cons a l ih => show ([hexB (a / 16), hexB (a % 16)] ++ H l).length = _; rw [List.length_append, ih]; simp; omega
theorem H_get : ∀ (xs : List Int) (k : Nat) (h : k < xs.length), (H xs)[2 * k]? = some (hexB (xs[k] / 16)) ∧ (H xs)[2 * k + 1]? = some (hexB (xs[k] % 16))
  | c :: xs, 0, _ => ⟨rfl, rfl⟩
  | c :: xs, k + 1, h => by
    have e : H (c :: xs) = hexB (c / 16) :: hexB (c % 16) :: H xs := rfl
    have := H_get xs k (by simpa using h)
    rw [e, show 2 * (k + 1) = 2 * k + 1 + 1 by omega]
    simpa using this
/-- What the reference reads of such a text. -/
theorem readFrom_H (s : ByteArray) (xs : List Int) (hs : li s = li headT ++ H xs) (hl : xs.length = 32) (hb : ∀ c ∈ xs, 0 ≤ c ∧ c < 256) : ∀ (d k : Nat) (x : List Int), k + d = 32 → x.length = 32 → readFrom s d k x = x.take k ++ xs.drop k
  | 0, k, x, h, hx => by
    rw [List.drop_of_length_le (by omega), List.append_nil, List.take_of_length_le (by omega)]
    rfl
  | d + 1, k, x, h, hx => by
    have hk : k < xs.length := by omega
    have hsz : s.size = 71 := by
      rw [← li_size, hs, List.length_append, H_len, hl]; rfl
    obtain ⟨g1, g2⟩ := H_get xs k hk
    have hc := hb xs[k] (List.getElem_mem hk)
    have at7 : ∀ j b, (H xs)[j]? = some b → bt s ((7 + j : Nat) : Int) = (b.toNat : Int) := fun j b hj => by
      rw [bt_li, Int.toNat_natCast, hs, List.getD_eq_getElem?_getD, List.getElem?_append_right (by show 7 ≤ 7 + j; omega)]
      rw [show 7 + j - (li headT).length = j by show 7 + j - 7 = j; omega, hj]
      rfl
    unfold readFrom
    rw [decide_eq_true (by omega : 7 + 2 * k + 1 < s.size), cond_true, at7 (2 * k) _ g1, show 8 + 2 * k = 7 + (2 * k + 1) by omega, at7 (2 * k + 1) _ g2]
    rw [(hex_fact (xs[k] / 16) (by omega) (by omega)).2, (hex_fact (xs[k] % 16) (by omega) (by omega)).2]
    rw [show 16 * (xs[k] / 16) + xs[k] % 16 = xs[k] by omega, readFrom_H s xs hs hl hb d (k + 1) _ (by omega) (by rw [List.length_set]; exact hx), set_take _ (by omega), List.append_assoc, List.drop_eq_getElem_cons hk]
    rfl
theorem bytes_mem {x : List Int} (h : bytesL x) : ∀ c ∈ x, 0 ≤ c ∧ c < 256 := fun c hc => by
  obtain ⟨j, hj, e⟩ := List.getElem_of_mem hc
  have := h j
  rw [List.getD_eq_getElem?_getD, List.getElem?_eq_getElem hj, Option.getD_some, e] at this
  exact this
theorem mem_bytes {x : List Int} (h : ∀ c ∈ x, 0 ≤ c ∧ c < 256) : bytesL x := fun j => by
  rw [List.getD_eq_getElem?_getD]
  cases hj : x[j]? with
  | none => simp
  | some c => exact h c (List.mem_of_getElem? hj)
theorem zeros_from : zeroFrom 0 zerosL := fun j _ => by
  rw [show zerosL = List.replicate 32 0 from rfl, List.getD_eq_getElem?_getD, List.getElem?_replicate]
  split <;> rfl
/-- The program takes a text: it is a digest's. -/
theorem pdOk_text {s : ByteArray} (h : pdOk s = true) : ∃ xs : List Int, xs.length = 32 ∧ (∀ c ∈ xs, 0 ≤ c ∧ c < 256) ∧ li s = li headT ++ H xs := by
  unfold pdOk at h
  simp only [Bool.and_eq_true, beq_iff_eq] at h
  obtain ⟨h1, h2, h3⟩ := h
  obtain ⟨y, hy⟩ := Option.isSome_iff_exists.1 h3
  rw [pd_list (restS s) 64 0 zerosL (by omega), List.drop_zero] at hy
  obtain ⟨xs, e1, e2, e3⟩ := pdL_bwd 32 0 zerosL (li (restS s)) y (by rw [li_size]; omega) rfl zeros_from hy
  refine ⟨xs, e1, e2, ?_⟩
  rw [← e3]
  obtain ⟨z, hz⟩ := List.isPrefixOf_iff_prefix.1 h1
  have : li (restS s) = z := by
    show Lib.trimPrefix (li s) (li headT) = z
    unfold Lib.trimPrefix
    rw [if_pos h1, show li s = li headT ++ z from hz.symm]
    exact List.drop_left
  rw [this]
  exact hz.symm
theorem of_text {s : ByteArray} {xs : List Int} (hl : xs.length = 32) (hb : ∀ c ∈ xs, 0 ≤ c ∧ c < 256) (hs : li s = li headT ++ H xs) :
    pdOk s = true ∧ pd (restS s) 65 0 zerosL = some xs ∧ readS s = xs ∧ tellS xs = s := by
  have hpre : hpS s headT = true := List.isPrefixOf_iff_prefix.2 ⟨H xs, hs.symm⟩
  have hrest : li (restS s) = H xs := by
    show Lib.trimPrefix (li s) (li headT) = _
    unfold Lib.trimPrefix
    rw [if_pos hpre, hs]
    exact List.drop_left
  have hsz : (restS s).size = 64 := by rw [← li_size, hrest, H_len, hl]
  have hpd : pd (restS s) 65 0 zerosL = some xs := by
    rw [pd_list (restS s) 64 0 zerosL (by omega), List.drop_zero, hrest]
    have := pdL_fwd xs 0 zerosL hb (by rw [hl]; rfl) zeros_from
    simpa using this
  refine ⟨?_, hpd, ?_, ?_⟩
  · unfold pdOk
    rw [hpre, hsz, hpd]
    rfl
  · unfold readS
    have := readFrom_H s xs hs hl hb 32 0 zerosL rfl rfl
    simpa using this
  · rw [tellS_hex xs (mem_bytes hb) hl, H_hexN xs hl]
    apply li_inj
    rw [li_append, hs]
theorem digest_same (s : ByteArray) : pparseX s = rparseX s ∧ pparseE s = rparseE s := by
  unfold pparseX rparseX pparseE rparseE
  cases hp : pdOk s with
  | true =>
    obtain ⟨xs, h1, h2, h3⟩ := pdOk_text hp
    obtain ⟨_, e2, e3, e4⟩ := of_text h1 h2 h3
    rw [e2, e3, e4, eqs]
    exact ⟨rfl, rfl⟩
  | false =>
    cases hr : (tellS (readS s)).toList == s.toList with
    | false => exact ⟨rfl, rfl⟩
    | true =>
      exfalso
      have hb := readS_bytes s
      have e := eq_of hr
      have : li s = li headT ++ H (readS s) := by
        rw [← H_hexN _ hb.2]
        conv => lhs; rw [← e, tellS_hex _ hb.1 hb.2]
        rw [li_append]
      rw [(of_text hb.2 (bytes_mem hb.1) this).1] at hp
      cases hp
theorem parse_law (s : ByteArray) : pparse9 s = rparse12 s := parse_same s (digest_same _).1 (digest_same _).2
end Go.Proofs.YtofcjkbgieenlaaDoor.PM

namespace Go.Proofs.YtofcjkbgieenlaaDoor.PM
open Go Go.Proofs Go.RowKit Go.ChangeShapes
set_option maxRecDepth 100000
set_option linter.unusedVariables false
set_option linter.unusedSimpArgs false
variable {H : Type} {enc : TypeId × Value → H} {P : Program} {w w' : World} {base base' : Nat} {sp sp' : Nat → Bool} {held held' : Bool}

theorem trod_flat {t : TypeId} (ht : P.underlying t = some .bool ∨ (∃ k, P.underlying t = some (.int k)) ∨ P.underlying t = some .string) {fuel : Nat} {cs : List Value} {x : DataW H × List MemPlace}
    (h : DataW.trod enc P w base sp held fuel t cs = some x) : DataW.trod enc P w' base' sp' held' fuel t cs = some x ∧ x.2 = [] := by
  cases fuel with
  | zero => simp [DataW.trod] at h
  | succ n =>
    unfold DataW.trod at h ⊢
    rcases ht with ht | ⟨k, ht⟩ | ht
    · rw [ht] at h ⊢
      split at h <;> simp_all <;> (try (first | (obtain ⟨_, h⟩ := h; rw [← h]) | rw [← h]))
    · rw [ht] at h ⊢
      split at h <;> simp_all <;> (try (first | (obtain ⟨_, h⟩ := h; rw [← h]) | rw [← h]))
    · rw [ht] at h ⊢
      split at h <;> simp_all <;> (try (first | (obtain ⟨_, h⟩ := h; rw [← h]) | rw [← h]))
theorem mapM_of {α β : Type} {g : α → Option β} : ∀ {l : List α} {xs : List β}, xs.length = l.length → (∀ (i : Nat) (a : α), l[i]? = some a → g a = xs[i]?) → l.mapM g = some xs
  | [], [], _, _ => rfl
  | a :: l, [], h, _ => by cases h
  | [], b :: xs, h, _ => by cases h
  | a :: l, b :: xs, h, hg => by
    have h0 : g a = some b := hg 0 a rfl
    have ih := mapM_of (l := l) (xs := xs) (by simpa using h) fun i c hc => hg (i + 1) c hc
    rw [List.mapM_cons, h0, ih]
    rfl
/-- Types whose values point nowhere. -/
inductive Flat (P : Program) : TypeId → Prop
  | one {t : TypeId} (h : P.underlying t = some .bool ∨ (∃ k, P.underlying t = some (.int k)) ∨ P.underlying t = some .string) : Flat P t
  | struct {t : TypeId} {fs : Array Field} (h : P.underlying t = some (.struct fs)) (hf : ∀ (i : Nat) (f : Field), fs[i]? = some f → Flat P f.type) : Flat P t
  | array {t e : TypeId} {n : Nat} (h : P.underlying t = some (.array n e)) (he : Flat P e) : Flat P t
theorem flatMap_nil {xs : List (DataW H × List MemPlace)} (h : ∀ y ∈ xs, y.2 = []) : xs.flatMap (·.2) = [] := by
  induction xs with
  | nil => rfl
  | cons y xs ih =>
    rw [List.flatMap_cons, h y List.mem_cons_self, ih fun z hz => h z (List.mem_cons_of_mem _ hz)]
    rfl
theorem trod_any {t : TypeId} (hF : Flat P t) : ∀ {fuel : Nat} {cs : List Value} {x : DataW H × List MemPlace},
    DataW.trod enc P w base sp held fuel t cs = some x → DataW.trod enc P w' base' sp' held' fuel t cs = some x ∧ x.2 = [] := by
  induction hF with
  | one h => exact fun hx => trod_flat h hx
  | struct ht hf ih =>
    rename_i t fs
    intro fuel cs x h
    obtain ⟨xs, n, rfl, rfl, hl, hlen, hfs⟩ := DataW.trod_struct ht h
    have each : ∀ (i : Nat) (f : Field) (y : DataW H × List MemPlace), fs[i]? = some f → xs[i]? = some y → DataW.trod enc P w' base' sp' held' n f.type ((cs.drop f.offset).take (P.cellsOf f.type)) = some y ∧ y.2 = [] := fun i f y h1 h2 =>
      ih i f h1 ((hfs i f h1).trans h2)
    refine ⟨trod_struct_mk ht hl (mapM_of (by simpa using hlen) fun i f hi => ?_), flatMap_nil fun y hy => ?_⟩
    · have hi' : fs[i]? = some f := by simpa using hi
      have hlt : i < xs.length := by rw [hlen]; exact (Array.getElem?_eq_some_iff.1 hi').1
      rw [List.getElem?_eq_getElem hlt]
      exact (each i f _ hi' (List.getElem?_eq_getElem hlt)).1
    · obtain ⟨i, hi, e⟩ := List.getElem_of_mem hy
      have hlt : i < fs.size := by rw [← hlen]; exact hi
      exact (each i fs[i] y (Array.getElem?_eq_getElem hlt) (by rw [List.getElem?_eq_getElem hi, e])).2
  | array ht he ih =>
    rename_i t e n
    intro fuel cs x h
    obtain ⟨xs, m, rfl, rfl, hl, hlen, hes⟩ := DataW.trod_array ht h
    have each : ∀ (i : Nat) (y : DataW H × List MemPlace), i < n → xs[i]? = some y → DataW.trod enc P w' base' sp' held' m e ((cs.drop (i * P.cellsOf e)).take (P.cellsOf e)) = some y ∧ y.2 = [] := fun i y h1 h2 =>
      ih ((hes i h1).trans h2)
    refine ⟨?_, flatMap_nil fun y hy => ?_⟩
    · have hm : (List.range n).mapM (fun i => DataW.trod enc P w' base' sp' held' m e ((cs.drop (i * P.cellsOf e)).take (P.cellsOf e))) = some xs := mapM_of (by simpa using hlen) fun i a hi => by
        have hia : i = a ∧ i < n := by
          obtain ⟨h1, h2⟩ := List.getElem?_eq_some_iff.1 hi
          rw [List.getElem_range] at h2
          exact ⟨h2, by simpa using h1⟩
        obtain ⟨rfl, hlt⟩ := hia
        have hlx : i < xs.length := by omega
        rw [List.getElem?_eq_getElem hlx]
        exact (each i _ hlt (List.getElem?_eq_getElem hlx)).1
      unfold DataW.trod
      rw [ht]
      split <;> simp_all
    · obtain ⟨i, hi, e⟩ := List.getElem_of_mem hy
      exact (each i y (by omega) (by rw [List.getElem?_eq_getElem hi, e])).2
end Go.Proofs.YtofcjkbgieenlaaDoor.PM

namespace Go.Proofs.YtofcjkbgieenlaaDoor.PM
open Go Go.Proofs Go.RowKit Go.ChangeShapes
set_option maxRecDepth 100000
set_option linter.unusedVariables false
set_option linter.unusedSimpArgs false
variable {H : Type} {enc : TypeId × Value → H} {P : Program} {w : World} {base : Nat} {sp : Nat → Bool} {held : Bool}

theorem open_str {t : TypeId} (ht : P.underlying t = some .string) {n : Nat} {cs : List Value} {y : DataW H × List MemPlace} (h : DataW.trod enc P w base sp held n t cs = some y) : ∃ s : ByteArray, cs = [.string s] := by
  cases n with
  | zero => simp [DataW.trod] at h
  | succ n =>
    unfold DataW.trod at h
    rw [ht] at h
    split at h <;> simp_all
theorem open_bit {t : TypeId} (ht : P.underlying t = some .bool) {n : Nat} {cs : List Value} {y : DataW H × List MemPlace} (h : DataW.trod enc P w base sp held n t cs = some y) : ∃ b : Bool, cs = [.bool b] := by
  cases n with
  | zero => simp [DataW.trod] at h
  | succ n =>
    unfold DataW.trod at h
    rw [ht] at h
    split at h <;> simp_all
theorem open_u8 {t : TypeId} (ht : P.underlying t = some (.int .u8)) {n : Nat} {cs : List Value} {y : DataW H × List MemPlace} (h : DataW.trod enc P w base sp held n t cs = some y) : ∃ c : Int, cs = [.int .u8 c] ∧ (Lit.int .u8 c).wf = true := by
  cases n with
  | zero => simp [DataW.trod] at h
  | succ n =>
    unfold DataW.trod at h
    rw [ht] at h
    split at h <;> simp_all
theorem flat26 : Flat Tryd.prog 26 := by
  refine .struct Tryd.underlying26 fun i f hf => ?_
  match i, hf with
  | 0, hf => cases hf; exact .one (.inr (.inr Tryd.underlying9))
  | 1, hf => cases hf; exact .one (.inr (.inr Tryd.underlying9))
  | 2, hf => cases hf; exact .one (.inr (.inr Tryd.underlying9))
  | 3, hf => cases hf; exact .array Tryd.underlying24 (.one (.inr (.inl ⟨_, Tryd.underlying5⟩)))
  | 4, hf => cases hf; exact .one (.inl Tryd.underlying4)
  | n + 5, hf => cases hf
theorem list36 {cs : List Value} (h : cs.length = 36) : cs = (cs.drop 0).take 1 ++ ((cs.drop 1).take 1 ++ ((cs.drop 2).take 1 ++ ((cs.drop 3).take 32 ++ (cs.drop 35).take 1))) := by
  have e : (cs.drop 35).take 1 = cs.drop 35 := List.take_of_length_le (by rw [List.length_drop]; omega)
  have f : ∀ a b, (cs.drop a).take b ++ cs.drop (a + b) = cs.drop a := fun a b => by
    rw [← List.drop_drop, List.take_append_drop]
  rw [e, f 3 32, f 2 1, f 1 1, f 0 1, List.drop_zero]
theorem open_ref {cs : List Value} {n : Nat} {y : DataW H × List MemPlace} (h : DataW.trod enc Tryd.prog w base sp held n 26 cs = some y) :
    ∃ (d p t : ByteArray) (l : List Value) (b : Bool), cs = .string d :: .string p :: .string t :: (l ++ [.bool b]) ∧ l.length = 32 ∧ ∀ v ∈ l, ∃ c : Int, v = .int .u8 c ∧ (Lit.int .u8 c).wf = true := by
  obtain ⟨xs, m, rfl, rfl, hl, hlen, hfs⟩ := DataW.trod_struct Tryd.underlying26 h
  have c26 : Tryd.prog.cellsOf 26 = 36 := by kernel_rfl
  have c9 : Tryd.prog.cellsOf 9 = 1 := by kernel_rfl
  have c24 : Tryd.prog.cellsOf 24 = 32 := by kernel_rfl
  have c4 : Tryd.prog.cellsOf 4 = 1 := by kernel_rfl
  have c5 : Tryd.prog.cellsOf 5 = 1 := by kernel_rfl
  rw [c26] at hl
  match xs, hlen with
  | [x0, x1, x2, x3, x4], _ =>
    have g0 : DataW.trod enc Tryd.prog w base sp held m 9 ((cs.drop 0).take (Tryd.prog.cellsOf 9)) = some x0 := hfs 0 _ rfl
    have e0 : DataW.trod enc Tryd.prog w base sp held m 9 ((cs.drop 0).take 1) = some x0 := by rw [c9] at g0; exact g0
    have g1 : DataW.trod enc Tryd.prog w base sp held m 9 ((cs.drop 1).take (Tryd.prog.cellsOf 9)) = some x1 := hfs 1 _ rfl
    have e1 : DataW.trod enc Tryd.prog w base sp held m 9 ((cs.drop 1).take 1) = some x1 := by rw [c9] at g1; exact g1
    have g2 : DataW.trod enc Tryd.prog w base sp held m 9 ((cs.drop 2).take (Tryd.prog.cellsOf 9)) = some x2 := hfs 2 _ rfl
    have e2 : DataW.trod enc Tryd.prog w base sp held m 9 ((cs.drop 2).take 1) = some x2 := by rw [c9] at g2; exact g2
    have g3 : DataW.trod enc Tryd.prog w base sp held m 24 ((cs.drop 3).take (Tryd.prog.cellsOf 24)) = some x3 := hfs 3 _ rfl
    have e3 : DataW.trod enc Tryd.prog w base sp held m 24 ((cs.drop 3).take 32) = some x3 := by rw [c24] at g3; exact g3
    have g4 : DataW.trod enc Tryd.prog w base sp held m 4 ((cs.drop 35).take (Tryd.prog.cellsOf 4)) = some x4 := hfs 4 _ rfl
    have e4 : DataW.trod enc Tryd.prog w base sp held m 4 ((cs.drop 35).take 1) = some x4 := by rw [c4] at g4; exact g4
    obtain ⟨d, hd⟩ := open_str Tryd.underlying9 e0
    obtain ⟨p, hp⟩ := open_str Tryd.underlying9 e1
    obtain ⟨t, ht⟩ := open_str Tryd.underlying9 e2
    obtain ⟨b, hb⟩ := open_bit Tryd.underlying4 e4
    obtain ⟨zs, k, _, _, hzl, hzn, hz⟩ := DataW.trod_array Tryd.underlying24 e3
    have e := list36 hl
    rw [hd, hp, ht, hb] at e
    have hlen32 : ((cs.drop 3).take 32).length = 32 := by rw [List.length_take, List.length_drop]; omega
    refine ⟨d, p, t, (cs.drop 3).take 32, b, e, hlen32, fun v hv => ?_⟩
    obtain ⟨i, hi, ev⟩ := List.getElem_of_mem hv
    have hi' : i < 32 := by omega
    have hzi := hz i hi'
    rw [List.getElem?_eq_getElem (by omega), c5, Nat.mul_one] at hzi
    obtain ⟨c, hc1, hc2⟩ := open_u8 Tryd.underlying5 hzi
    rw [List.drop_eq_getElem_cons hi, List.take_succ_cons, List.take_zero, ev] at hc1
    exact ⟨c, by simpa using hc1, hc2⟩
end Go.Proofs.YtofcjkbgieenlaaDoor.PM

namespace Go.Proofs.YtofcjkbgieenlaaDoor.PM
open Go Go.Proofs Go.RowKit Go.ChangeShapes
set_option maxRecDepth 100000
set_option linter.unusedVariables false
set_option linter.unusedSimpArgs false
variable {H : Type} {enc : TypeId × Value → H} {P : Program} {w w' : World} {base base' : Nat} {sp sp' : Nat → Bool} {held held' : Bool}

theorem allI_of {k : IntKind} : ∀ {l : List Value}, (∀ v ∈ l, ∃ c : Int, v = .int k c) → allI k l = true
  | [], _ => rfl
  | v :: l, h => by
    obtain ⟨c, rfl⟩ := h v List.mem_cons_self
    have := allI_of (l := l) fun u hu => h u (List.mem_cons_of_mem _ hu)
    simp [allI, this]
theorem wf_u8 {c : Int} (h : (Lit.int .u8 c).wf = true) : 0 ≤ c ∧ c < 256 := by
  have h1 : (decide (IntKind.u8.min ≤ c) && decide (c ≤ IntKind.u8.max)) = true := h
  have e1 : IntKind.u8.min = 0 := by decide
  have e2 : IntKind.u8.max = 255 := by decide
  rw [Bool.and_eq_true, decide_eq_true_eq, decide_eq_true_eq, e1, e2] at h1
  omega
theorem bytesL_of : ∀ {l : List Value}, (∀ v ∈ l, ∃ c : Int, v = .int .u8 c ∧ (Lit.int .u8 c).wf = true) → bytesL (decI l)
  | [], _ => fun i => by simp [decI]
  | v :: l, h => by
    obtain ⟨c, rfl, hc⟩ := h v List.mem_cons_self
    have hc := wf_u8 hc
    have ih := bytesL_of (l := l) fun u hu => h u (List.mem_cons_of_mem _ hu)
    intro i
    cases i with
    | zero => simpa [decI] using hc
    | succ i => simpa [decI] using ih i
theorem ref_in {v : Value} {d : DataW H} {ps : List MemPlace} (hv : Value.okWide Tryd.prog w .any base' 26 v) (h : DataW.Trod enc Tryd.prog w base sp held 26 v d ps) :
    ∃ (r : RefT) (l : List Value), v = .agg ⟨l⟩ ∧ isRef l = some r ∧ RefL r ∧ ps = [] ∧ ∀ w' b s g, DataW.Trod enc Tryd.prog w' b s g 26 v d [] := by
  obtain ⟨fuel, h⟩ := h
  unfold Value.okWide at hv
  rw [Tryd.underlying26] at hv
  obtain ⟨⟨cs⟩, rfl, _, _⟩ := hv
  have h' : DataW.trod enc Tryd.prog w base sp held fuel 26 cs = some (d, ps) := h
  obtain ⟨dd, p, t, l, b, rfl, hl, hb⟩ := open_ref h'
  have hps : ps = [] := (trod_any (w' := w) (base' := 0) (sp' := sp) (held' := held) flat26 h').2
  subst hps
  have ha := allI_of (l := l) fun v hv => (hb v hv).imp fun _ h => h.1
  have hlen : (decI l).length = 32 := by
    have h3 := congrArg List.length (enc_decI ha)
    rw [List.length_map] at h3
    omega
  have ht : (l ++ [Value.bool b]).take 32 = l := by rw [← hl]; exact List.take_left
  have hd : (l ++ [Value.bool b]).drop 32 = [Value.bool b] := by rw [← hl]; exact List.drop_left
  have hdig : isDig l = true := by unfold isDig; rw [ha, hl]; rfl
  refine ⟨⟨dd, p, t, decI l, b⟩, _, rfl, ?_, ⟨bytesL_of hb, hlen⟩, rfl, fun w' b s g => ⟨fuel, (trod_any flat26 h').1⟩⟩
  unfold isRef
  simp only [hd, ht, hdig, cond_true]
end Go.Proofs.YtofcjkbgieenlaaDoor.PM

namespace Go.Proofs.YtofcjkbgieenlaaDoor.PM
open Go Go.Proofs Go.RowKit Go.ChangeShapes
set_option maxRecDepth 100000
set_option linter.unusedVariables false
set_option linter.unusedSimpArgs false
variable {H : Type} {enc : TypeId × Value → H} {P : Program} {w w' : World} {base base' : Nat} {sp sp' : Nat → Bool} {held held' : Bool}

theorem bytes_in {t e : TypeId} {n : Nat} (ht : P.underlying t = some (.array n e)) (he : P.underlying e = some (.int .u8)) (hc : P.cellsOf e = 1) (hct : P.cellsOf t = n) {v : Value} {d : DataW H} {ps : List MemPlace}
    (hv : Value.okWide P w .any base' t v) (h : DataW.Trod enc P w base sp held t v d ps) :
    ∃ l : List Value, v = .agg ⟨l⟩ ∧ l.length = n ∧ (∀ v ∈ l, ∃ c : Int, v = .int .u8 c ∧ (Lit.int .u8 c).wf = true) ∧ ps = [] ∧ ∀ w' b s g, DataW.Trod enc P w' b s g t v d [] := by
  obtain ⟨fuel, h⟩ := h
  unfold Value.okWide at hv
  rw [ht] at hv
  obtain ⟨⟨cs⟩, rfl, hsz, _⟩ := hv
  have hl : cs.length = n := by rw [← hct]; exact hsz
  have h' : DataW.trod enc P w base sp held fuel t cs = some (d, ps) := h
  have hF : Flat P t := .array ht (.one (.inr (.inl ⟨_, he⟩)))
  have hps : ps = [] := (trod_any (w' := w) (base' := 0) (sp' := sp) (held' := held) hF h').2
  subst hps
  obtain ⟨zs, k, _, _, hzl, hzn, hz⟩ := DataW.trod_array ht h'
  refine ⟨cs, rfl, hl, fun v hv => ?_, rfl, fun w' b s g => ⟨fuel, (trod_any hF h').1⟩⟩
  obtain ⟨i, hi, ev⟩ := List.getElem_of_mem hv
  have hi' : i < n := by omega
  have hzi := hz i hi'
  rw [List.getElem?_eq_getElem (by omega), hc, Nat.mul_one] at hzi
  obtain ⟨c, hc1, hc2⟩ := open_u8 he hzi
  rw [List.drop_eq_getElem_cons hi, List.take_succ_cons, List.take_zero, ev] at hc1
  exact ⟨c, by simpa using hc1, hc2⟩
theorem digest_in {v : Value} {d : DataW H} {ps : List MemPlace} (hv : Value.okWide Tryd.prog w .any base' 24 v) (h : DataW.Trod enc Tryd.prog w base sp held 24 v d ps) :
    ∃ l : List Value, v = .agg ⟨l⟩ ∧ isDig l = true ∧ bytesL (decI l) ∧ ps = [] ∧ ∀ w' b s g, DataW.Trod enc Tryd.prog w' b s g 24 v d [] := by
  obtain ⟨l, h1, h2, h3, h4, h5⟩ := bytes_in Tryd.underlying24 Tryd.underlying5 (by kernel_rfl) (by kernel_rfl) hv h
  refine ⟨l, h1, ?_, bytesL_of h3, h4, h5⟩
  unfold isDig
  rw [allI_of fun v hv => (h3 v hv).imp fun _ h => h.1, h2]
  rfl
theorem three_in {l : List Value} (hl : l.length = 3) (h : ∀ v ∈ l, ∃ c : Int, v = .int .u8 c ∧ (Lit.int .u8 c).wf = true) :
    ∃ a b c : Int, l = [.int .u8 a, .int .u8 b, .int .u8 c] ∧ (0 ≤ a ∧ a < 256) ∧ (0 ≤ b ∧ b < 256) ∧ (0 ≤ c ∧ c < 256) := by
  match l, hl, h with
  | [u0, u1, u2], _, h =>
    obtain ⟨a, rfl, ha⟩ := h u0 (by simp)
    obtain ⟨b, rfl, hb⟩ := h u1 (by simp)
    obtain ⟨c, rfl, hc⟩ := h u2 (by simp)
    exact ⟨a, b, c, rfl, wf_u8 ha, wf_u8 hb, wf_u8 hc⟩
theorem six_in {l : List Value} (hl : l.length = 6) (h : ∀ v ∈ l, ∃ c : Int, v = .int .u8 c ∧ (Lit.int .u8 c).wf = true) :
    ∃ a0 a1 a2 a3 a4 a5 : Int, l = [.int .u8 a0, .int .u8 a1, .int .u8 a2, .int .u8 a3, .int .u8 a4, .int .u8 a5] ∧ 0 ≤ a0 ∧ 0 ≤ a1 ∧ 0 ≤ a2 ∧ 0 ≤ a3 ∧ 0 ≤ a4 ∧ 0 ≤ a5 := by
  match l, hl, h with
  | [u0, u1, u2, u3, u4, u5], _, h =>
    obtain ⟨a0, rfl, h0⟩ := h u0 (by simp)
    obtain ⟨a1, rfl, h1⟩ := h u1 (by simp)
    obtain ⟨a2, rfl, h2⟩ := h u2 (by simp)
    obtain ⟨a3, rfl, h3⟩ := h u3 (by simp)
    obtain ⟨a4, rfl, h4⟩ := h u4 (by simp)
    obtain ⟨a5, rfl, h5⟩ := h u5 (by simp)
    exact ⟨a0, a1, a2, a3, a4, a5, rfl, (wf_u8 h0).1, (wf_u8 h1).1, (wf_u8 h2).1, (wf_u8 h3).1, (wf_u8 h4).1, (wf_u8 h5).1⟩
end Go.Proofs.YtofcjkbgieenlaaDoor.PM

namespace Go.Proofs.YtofcjkbgieenlaaDoor.PM
open Go Go.Proofs Go.Proofs.YtofcjkbgieenlaaDoor.Hand
set_option maxRecDepth 100000
set_option linter.unusedVariables false
set_option linter.unusedSimpArgs false

theorem label_bytes {x : ByteArray} (h : labelB x = true) {c : UInt8} (hc : allP (c.toNat : Int) = false) : c ∉ li x := by
  intro hm
  rw [labelB_bad] at h
  unfold badLabel at h
  have h2 : ofS x allT = true := by
    cases ho : ofS x allT with
    | true => rfl
    | false => rw [ho] at h; simp at h
  rw [(ofS_bytes (p := allP) allT_cls x).1 h2 c hm] at hc
  cases hc
theorem domain_bytes {d : ByteArray} (h : domainPS d = true) {c : UInt8} (hc : allP (c.toNat : Int) = false) (h1 : c ≠ 46) (h2 : c ≠ 58) : c ∉ li d := by
  unfold domainPS at h
  have labs : ∀ y : ByteArray, (splitS 46 y).all labelB = true → c ∉ li y := fun y hy hm => by
    rcases spl_mem (c := 46) hm with hc | ⟨x, g1, g2⟩
    · exact absurd hc h1
    · have : bs x ∈ splitS 46 y := by
        unfold splitS
        rw [splitB_spl]
        exact List.mem_map_of_mem g1
      exact label_bytes (List.all_eq_true.1 hy _ this) hc g2
  cases hf : cutF d 58 with
  | false =>
    rw [hf, Bool.false_and, cond_false, cutA_none hf] at h
    exact labs d h
  | true =>
    rw [hf, Bool.true_and] at h
    cases hp : portS (cutZ d 58) with
    | false => rw [hp] at h; simp at h
    | true =>
      rw [hp, Bool.not_true, cond_false] at h
      obtain ⟨e, _⟩ := cut_true hf
      intro hm
      rw [e] at hm
      rcases List.mem_append.1 hm with hm | hm
      · exact labs _ h hm
      · rcases List.mem_cons.1 hm with hm | hm
        · exact absurd hm h2
        · rw [portS_ref] at hp
          have h2 : ofS (cutZ d 58) tenT = true := by
            cases ho : ofS (cutZ d 58) tenT with
            | true => rfl
            | false => rw [ho] at hp; simp at hp
          have h3 := (ofS_bytes (p := digitB) tenT_cls _).1 h2 c hm
          unfold allP at hc
          rw [h3] at hc
          simp at hc
theorem path_part {p : ByteArray} (h : pathPS p = true) : ∀ x ∈ spl 47 (li p), headW x = true ∧ A x [] = true := fun x hx => by
  unfold pathPS at h
  have : bs x ∈ splitS 47 p := by
    unfold splitS
    rw [splitB_spl]
    exact List.mem_map_of_mem hx
  have h1 := List.all_eq_true.1 h _ this
  rw [partPS_A, Bool.and_eq_true] at h1
  exact h1
theorem path_bytes {p : ByteArray} (h : pathPS p = true) {c : UInt8} (hc : pQ c = false) (h1 : c ≠ 47) : c ∉ li p := by
  intro hm
  rcases spl_mem (c := 47) hm with hx | ⟨x, g1, g2⟩
  · exact h1 hx
  · have := (path_part h x g1).2
    rw [A_ref, Bool.and_eq_true] at this
    rw [List.all_eq_true.1 this.1 c g2] at hc
    cases hc
theorem spl_nil (c : UInt8) : spl c [] = [[]] := spl_none (by simp)
theorem path_ne {p : ByteArray} (h : pathPS p = true) : li p ≠ [] := fun e => by
  have := (path_part h [] (by rw [e, spl_nil]; exact List.mem_cons_self)).1
  cases this
theorem tag_bytes {t : ByteArray} (h : tagS t = true) {c : UInt8} (hc : tagP (c.toNat : Int) = false) : c ∉ li t := by
  intro hm
  have h0 : isS t [] = false := by
    cases he : isS t [] with
    | false => rfl
    | true => rw [(isS_nil t).1 he] at hm; cases hm
  rw [tagS_ref t h0] at h
  have h2 : ofS t tagT = true := by
    cases ho : ofS t tagT with
    | true => rfl
    | false => rw [ho] at h; simp at h
  rw [(ofS_bytes (p := tagP) tagT_cls t).1 h2 c hm] at hc
  cases hc
theorem eqF_eq {x y : List Int} : ∀ n i, eqF x y n i = true → ∀ j, i ≤ j → j < i + n → x.getD j 0 = y.getD j 0
  | 0, i, _, j, h1, h2 => by omega
  | n + 1, i, h, j, h1, h2 => by
    unfold eqF at h
    rw [Bool.and_eq_true, beq_iff_eq] at h
    rcases Nat.eq_or_lt_of_le h1 with rfl | h1
    · exact h.1
    · exact eqF_eq n (i + 1) h.2 j h1 (by omega)
theorem eqD_eq {x y : List Int} (h : eqD x y = true) (hx : x.length = 32) (hy : y.length = 32) : x = y := by
  apply List.ext_getElem (hx.trans hy.symm)
  intro i h1 h2
  have := eqF_eq 32 0 h i (Nat.zero_le _) (by omega)
  simpa [List.getD_eq_getElem?_getD, List.getElem?_eq_getElem h1, List.getElem?_eq_getElem h2] using this
/-- What Check looks at. -/
structure Good (r : RefT) : Prop where
  d : domainPS r.d = true
  p : pathPS r.p = true
  t : taggedS r = true
  x : r.b = true ∨ r.x = zerosL
  k : knownS r = true
  s : (textS tellS r).size ≤ 200
  l : RefL r
theorem good_of {r : RefT} (hl : RefL r) (h : checkS r = 0) : Good r := by
  have h' : domainPS r.d = true ∧ pathPS r.p = true ∧ taggedS r = true ∧ (r.b = true ∨ eqD r.x zerosI = true) ∧ knownS r = true ∧ (textS tellS r).size ≤ 200 := by
    unfold checkS at h
    cases h1 : domainPS r.d <;> cases h2 : pathPS r.p <;> cases h3 : taggedS r <;> cases h4 : r.b <;> cases h5 : eqD r.x zerosI <;> cases h6 : knownS r <;>
      simp only [h1, h2, h3, h4, h5, h6, Bool.not_true, Bool.not_false, Bool.true_or, Bool.false_or, Bool.or_true, Bool.or_false, cond_true, true_or, or_true, true_and] at h ⊢ <;>
      first
        | exact absurd h (by decide)
        | (cases hs : decide (((textS tellS r).size : Int) > 200) with
           | true => rw [hs] at h; exact absurd h (by decide)
           | false => have := of_decide_eq_false hs; omega)
  obtain ⟨h1, h2, h3, h4, h5, h6⟩ := h'
  exact ⟨h1, h2, h3, h4.imp id fun h => eqD_eq h hl.n rfl, h5, h6, hl⟩
theorem Good.zero {r : RefT} (g : Good r) : checkS r = 0 := by
  unfold checkS
  have hz : (r.b || eqD r.x zerosI) = true := by
    rcases g.x with h | h
    · rw [h]; rfl
    · rw [h, show eqD zerosL zerosI = true from by kernel_rfl, Bool.or_true]
  rw [g.d, g.p, g.t, hz, g.k, decide_eq_false (by have := g.s; omega)]
  rfl
/-- What a text has behind its domain and its path. -/
def tail (t : ByteArray) (x : List Int) (b : Bool) : List UInt8 := (bif !isS t [] then 58 :: li t else []) ++ (bif b then 64 :: li (tellS x) else [])
theorem textS_tail (r : RefT) : li (textS tellS r) = li r.d ++ 47 :: li r.p ++ tail r.t r.x r.b := by
  unfold textS tail
  cases isS r.t [] <;> cases r.b <;> simp [li_append, li]
/-- A tag, or none. -/
def TagOk (t : ByteArray) : Prop := isS t [] = true ∨ tagS t = true
/-- Behind the last colon there is a slash. -/
def Shut (n : List UInt8) : Prop := ∀ a c, n = a ++ 58 :: c → (47 : UInt8) ∈ c
theorem pin_read {x : List Int} (h1 : bytesL x) (h2 : x.length = 32) : pparseE (tellS x) = 0 ∧ pparseX (tellS x) = x := by
  have hs : li (tellS x) = li headT ++ H x := by rw [tellS_hex x h1 h2, H_hexN x h2, li_append]
  obtain ⟨e1, e2, _, _⟩ := of_text h2 (bytes_mem h1) hs
  unfold pparseE pparseX
  rw [e1, e2]
  exact ⟨rfl, rfl⟩
theorem tag_shut {n : ByteArray} (hn : Shut (li n)) (x : List Int) (b : Bool) : ptag n x b = pmid n (bif b then ⟨#[]⟩ else (ByteArray.mk #[108, 97, 116, 101, 115, 116])) x b := by
  unfold ptag lastI
  have hc : (decide (Lib.lastIndexByte n 58 ≥ 0) && !hasSlash (n.extract (Lib.lastIndexByte n 58).toNat n.size)) = false := by
    rcases last_spec n with ⟨h1, h2⟩ | ⟨i, h1, h2, h3, h4⟩
    · rw [h1]; rfl
    · rw [h1]
      have := hn _ _ h3
      have hs : hasSlash (n.extract ((i : Int)).toNat n.size) = true := by
        rw [hasSlash_cut, cutF_iff, li_extract, List.take_of_length_le (by rw [li_size]; exact Nat.le_refl _), Int.toNat_natCast]
        have e : (li n).drop i = 58 :: (li n).drop (i + 1) := by
          have hti : ((li n).take i).length = i := by rw [List.length_take, li_size]; omega
          have h5 : (li n).drop i = ((li n).take i ++ 58 :: (li n).drop (i + 1)).drop i := by rw [← h3]
          rw [h5]
          conv => lhs; arg 1; rw [← hti]
          rw [List.drop_left]
        rw [e]
        exact List.mem_cons_of_mem _ this
      rw [hs, Bool.not_true, Bool.and_false]
  rw [hc]
  cases b <;> rfl
theorem uniq_last {c : UInt8} (a b x y : List UInt8) (ha : c ∉ x) (hb : c ∉ y) (h : a ++ c :: x = b ++ c :: y) : a = b ∧ x = y := by
  have hr : x.reverse ++ c :: a.reverse = y.reverse ++ c :: b.reverse := by
    have := congrArg List.reverse h
    simpa using this
  obtain ⟨h1, h2⟩ := uniq_cut _ _ _ _ (by simpa using ha) (by simpa using hb) hr
  exact ⟨List.reverse_inj.1 h2, List.reverse_inj.1 h1⟩
theorem tag_read {n t s : ByteArray} (hs : li s = li n ++ 58 :: li t) (h0 : isS t [] = false) (hc : (58 : UInt8) ∉ li t) (hl : (47 : UInt8) ∉ li t) (x : List Int) (b : Bool) : ptag s x b = pmid n t x b := by
  unfold ptag lastI
  rcases last_spec s with ⟨h1, h2⟩ | ⟨i, h1, h2, h3, h4⟩
  · rw [hs] at h2
    exact absurd (List.mem_append_right _ List.mem_cons_self) h2
  · rw [h1]
    have hti : ((li s).take i).length = i := by rw [List.length_take, li_size]; omega
    have e := h3
    rw [hs] at e
    obtain ⟨e1, e2⟩ := uniq_last _ _ _ _ hc (by rw [← hs]; exact h4) e
    rw [← hs] at e1 e2
    have hall : ∀ a : Nat, li (s.extract a s.size) = (li s).drop a := fun a => by
      rw [li_extract, List.take_of_length_le (by rw [li_size]; exact Nat.le_refl _)]
    have f1 : s.extract (i + 1) s.size = t := li_inj (by rw [hall, e2])
    have f2 : s.extract 0 i = n := li_inj (by rw [li_extract, List.drop_zero, e1])
    have f3 : hasSlash (s.extract i s.size) = false := by
      rw [hasSlash_cut, Bool.eq_false_iff]
      intro hm
      have hm := (cutF_iff _ _).1 hm
      rw [hall] at hm
      have e : (li s).drop i = 58 :: li t := by
        have h5 : (li s).drop i = ((li s).take i ++ 58 :: (li s).drop (i + 1)).drop i := by rw [← h3]
        rw [h5]
        conv => lhs; arg 1; rw [← hti]
        rw [List.drop_left, ← e2]
      rw [e] at hm
      rcases List.mem_cons.1 hm with hm | hm
      · exact absurd hm (by decide)
      · exact hl hm
    have hge : (i : Int) ≥ 0 := by omega
    simp only [Int.toNat_natCast, f1, f2, f3, h0, hge, decide_true, Bool.not_false, Bool.and_true, cond_true, cond_false]
theorem parse_tail {n t s : ByteArray} {x : List Int} {b : Bool} (hs : li s = li n ++ tail t x b) (hsz : s.size ≤ 200) (h64 : (64 : UInt8) ∉ li n) (hsh : Shut (li n)) (ht : TagOk t)
    (h1 : bytesL x) (h2 : x.length = 32) (hz : b = true ∨ x = zerosL) :
    pparse9 s = pmid n (bif isS t [] then (bif b then ⟨#[]⟩ else (ByteArray.mk #[108, 97, 116, 101, 115, 116])) else t) x b := by
  have hc : ∀ y, ptag (ofL (li n ++ (bif !isS t [] then 58 :: li t else []))) y b = pmid n (bif isS t [] then (bif b then ⟨#[]⟩ else (ByteArray.mk #[108, 97, 116, 101, 115, 116])) else t) y b := fun y => by
    cases h0 : isS t [] with
    | true =>
      simp only [Bool.not_true, cond_false, cond_true, List.append_nil, ofL_li]
      exact tag_shut hsh y b
    | false =>
      have htag : tagS t = true := ht.resolve_left (by rw [h0]; simp)
      simp only [Bool.not_false, cond_false, cond_true]
      exact tag_read (li_ofL _) h0 (tag_bytes htag (by decide)) (tag_bytes htag (by decide)) y b
  have hm : (64 : UInt8) ∉ li n ++ (bif !isS t [] then 58 :: li t else []) := fun hm => by
    rcases List.mem_append.1 hm with hm | hm
    · exact h64 hm
    · cases h0 : isS t [] with
      | true => rw [h0] at hm; cases hm
      | false =>
        rw [h0] at hm
        rcases List.mem_cons.1 hm with hm | hm
        · exact absurd hm (by decide)
        · exact tag_bytes (ht.resolve_left (by rw [h0]; simp)) (by decide) hm
  have hlt : ¬ ((s.size : Int) > 200) := by omega
  unfold pparse9
  rw [decide_eq_false hlt, cond_false]
  unfold tail at hs
  cases b with
  | true =>
    have e : s = ofL (li n ++ (bif !isS t [] then 58 :: li t else [])) ++ ⟨#[64]⟩ ++ tellS x := li_inj (by
      rw [hs, li_append, li_append, li_ofL]
      simp [li])
    obtain ⟨g1, g2, g3⟩ := cut_app (ofL (li n ++ (bif !isS t [] then 58 :: li t else []))) (tellS x) 64 (by rw [li_ofL]; exact hm)
    rw [← e] at g1 g2 g3
    obtain ⟨p1, p2⟩ := pin_read h1 h2
    rw [g1, g2, g3, p1, p2, cond_true]
    exact hc x
  | false =>
    have hx : x = zerosL := hz.resolve_left (by simp)
    simp only [cond_false, List.append_nil] at hs
    have g1 : cutF s 64 = false := by
      rw [Bool.eq_false_iff]
      intro h
      have h := (cutF_iff _ _).1 h
      rw [hs] at h
      exact hm h
    have e : s = ofL (li n ++ (bif !isS t [] then 58 :: li t else [])) := li_inj (by rw [hs, li_ofL])
    rw [g1, cutA_none g1, cond_false, e, hx]
    exact hc zerosL
theorem shut_slash {l m : List UInt8} (h : (58 : UInt8) ∉ m) : Shut (l ++ 47 :: m) := fun a c e => by
  rcases List.append_eq_append_iff.1 e with ⟨a', h1, h2⟩ | ⟨c', h1, h2⟩
  · have : (58 : UInt8) ∈ 47 :: m := by rw [h2]; simp
    rcases List.mem_cons.1 this with h3 | h3
    · exact absurd h3 (by decide)
    · exact absurd h3 h
  · have : (47 : UInt8) ∈ (58 : UInt8) :: c := by rw [h2]; simp
    rcases List.mem_cons.1 this with h3 | h3
    · exact absurd h3 (by decide)
    · exact h3
theorem shut_none {n : List UInt8} (h : (58 : UInt8) ∉ n) : Shut n := fun a c e => absurd (by rw [e]; simp) h
theorem taggedS_ok {r : RefT} (h : taggedS r = true) : TagOk r.t := by
  unfold taggedS at h
  cases h0 : isS r.t [] with
  | true => exact .inl h0
  | false =>
    rw [h0] at h
    simp only [Bool.not_false, Bool.true_and, Bool.false_and, Bool.or_false] at h
    exact .inr h
theorem tagged_val {r : RefT} (h : taggedS r = true) : (bif isS r.t [] then (bif r.b then (⟨#[]⟩ : ByteArray) else (ByteArray.mk #[108, 97, 116, 101, 115, 116])) else r.t) = r.t := by
  unfold taggedS at h
  cases h0 : isS r.t [] with
  | true =>
    rw [h0] at h
    simp only [Bool.not_true, Bool.false_and, Bool.false_or, Bool.true_and] at h
    rw [h]
    exact (li_inj ((isS_nil r.t).1 h0)).symm
  | false => rfl
theorem Good.at {r : RefT} (g : Good r) : (64 : UInt8) ∉ li r.d ∧ (64 : UInt8) ∉ li r.p ∧ (58 : UInt8) ∉ li r.p ∧ (47 : UInt8) ∉ li r.d :=
  ⟨domain_bytes g.d (by decide) (by decide) (by decide), path_bytes g.p (by decide) (by decide), path_bytes g.p (by decide) (by decide), domain_noSlash g.d⟩
theorem Good.known {r : RefT} (g : Good r) : toldS r.d = true ∧ isS r.d [105, 110, 100, 101, 120, 46, 100, 111, 99, 107, 101, 114, 46, 105, 111] = false ∧ (isS r.d [100, 111, 99, 107, 101, 114, 46, 105, 111] && !hasSlash r.p) = false := by
  have h := g.k
  unfold knownS at h
  rw [Bool.and_eq_true, Bool.and_eq_true, Bool.not_eq_true'] at h
  refine ⟨h.1, h.2.1, ?_⟩
  have h3 := h.2.2
  cases h4 : isS r.d [100, 111, 99, 107, 101, 114, 46, 105, 111]
  · rfl
  · rw [h4] at h3
    simp only [Bool.not_true, Bool.false_or] at h3
    rw [h3]
    rfl
theorem Good.pend {r : RefT} (g : Good r) : pend r = (r, 0) := by
  unfold PM.pend
  rw [g.zero]
  rfl
/-- A name with its domain. -/
theorem mid_dom {r : RefT} (g : Good r) {n : ByteArray} (hn : li n = li r.d ++ 47 :: li r.p) : pmid n r.t r.x r.b = (r, 0) := by
  obtain ⟨k1, k2, k3⟩ := g.known
  have e : n = r.d ++ ⟨#[47]⟩ ++ r.p := li_inj (by rw [hn]; simp [li_append, li])
  obtain ⟨c1, c2, c3⟩ := cut_app r.d r.p 47 g.at.2.2.2
  rw [← e] at c1 c2 c3
  have hD : splitD n = r.d := by unfold splitD; rw [c1, c2, k1]; rfl
  have hR : splitR n = r.p := by unfold splitR; rw [c1, c2, c3, k1]; rfl
  unfold pmid
  rw [hD, hR, told_empty k1, k2]
  show pfin r.d r.p r.t r.x r.b = _
  unfold pfin
  rw [k3]
  exact g.pend
/-- The last part alone. -/
theorem mid_lib {r : RefT} (g : Good r) {n : ByteArray} (hd : isS r.d [100, 111, 99, 107, 101, 114, 46, 105, 111] = true) (hp : r.p = libT ++ n) (hn : hasSlash n = false) : pmid n r.t r.x r.b = (r, 0) := by
  have hf : cutF n 47 = false := by rw [← hasSlash_cut]; exact hn
  have hD : splitD n = ⟨#[]⟩ := by unfold splitD; rw [hf]; rfl
  have hR : splitR n = n := by unfold splitR; rw [hf]; rfl
  have ed : (ByteArray.mk #[100, 111, 99, 107, 101, 114, 46, 105, 111]) = r.d := li_inj ((isS_li _ _).1 hd).symm
  unfold pmid
  rw [hD, hR, show isS (⟨#[]⟩ : ByteArray) [] = true from by kernel_rfl, Bool.true_or, cond_true]
  unfold pfin
  rw [ed, hd, hn, ← hp]
  exact g.pend
/-- The path alone. -/
theorem mid_path {r : RefT} (g : Good r) (hd : isS r.d [100, 111, 99, 107, 101, 114, 46, 105, 111] = true) (hp : isS (splitD r.p) [] = true) : pmid r.p r.t r.x r.b = (r, 0) := by
  have hD : (cutF r.p 47 && toldS (cutA r.p 47)) = false := by
    cases hc : cutF r.p 47 && toldS (cutA r.p 47) with
    | false => rfl
    | true =>
      unfold splitD at hp
      rw [hc, cond_true] at hp
      rw [Bool.and_eq_true] at hc
      rw [told_empty hc.2] at hp
      cases hp
  have hR : splitR r.p = r.p := by unfold splitR; rw [hD]; rfl
  have ed : (ByteArray.mk #[100, 111, 99, 107, 101, 114, 46, 105, 111]) = r.d := li_inj ((isS_li _ _).1 hd).symm
  have k3 := g.known.2.2
  unfold pmid
  rw [hp, hR, Bool.true_or, cond_true]
  unfold pfin
  rw [ed, k3]
  exact g.pend
theorem text_back {r : RefT} (g : Good r) : pparse9 (textS tellS r) = (r, 0) := by
  obtain ⟨a1, a2, a3, a4⟩ := g.at
  have hm : (64 : UInt8) ∉ li r.d ++ 47 :: li r.p := fun h => by
    rcases List.mem_append.1 h with h | h
    · exact a1 h
    · rcases List.mem_cons.1 h with h | h
      · exact absurd h (by decide)
      · exact a2 h
  have := parse_tail (n := ofL (li r.d ++ 47 :: li r.p)) (s := textS tellS r) (t := r.t) (x := r.x) (b := r.b) (textS_tail r) g.s (by rw [li_ofL]; exact hm) (by rw [li_ofL]; exact shut_slash a3) (taggedS_ok g.t) g.l.x g.l.n g.x
  rw [this, tagged_val g.t]
  exact mid_dom g (li_ofL _)
/-- A tag that goes without saying. -/
theorem untag_tail (r : RefT) (g : Good r) : TagOk (untag r).t ∧ (untag r).x = r.x ∧ (untag r).b = r.b ∧ (bif isS (untag r).t [] then (bif r.b then (⟨#[]⟩ : ByteArray) else (ByteArray.mk #[108, 97, 116, 101, 115, 116])) else (untag r).t) = r.t ∧
    (tail (untag r).t r.x r.b).length ≤ (tail r.t r.x r.b).length := by
  unfold untag
  cases hu : isS r.t [108, 97, 116, 101, 115, 116] && !r.b with
  | false => exact ⟨taggedS_ok g.t, rfl, rfl, tagged_val g.t, Nat.le_refl _⟩
  | true =>
    rw [Bool.and_eq_true, Bool.not_eq_true'] at hu
    refine ⟨.inl (by kernel_rfl), rfl, rfl, ?_, ?_⟩
    · rw [hu.2]
      have e : r.t = (ByteArray.mk #[108, 97, 116, 101, 115, 116]) := li_inj ((isS_li _ _).1 hu.1)
      rw [e]
      simp only [cond_true, cond_false, show isS (⟨#[]⟩ : ByteArray) [] = true from by kernel_rfl]
    · simp only [cond_true]
      unfold tail
      rw [List.length_append, List.length_append, show isS (⟨#[]⟩ : ByteArray) [] = true from by kernel_rfl]
      exact Nat.add_le_add_right (Nat.zero_le _) _
theorem li_tp {s t : ByteArray} (h : hpS s t = true) : li s = li t ++ li (tpS s t) := by
  obtain ⟨y, hy⟩ := List.isPrefixOf_iff_prefix.1 h
  have hy : li t ++ y = li s := hy
  have e : li (tpS s t) = y := by
    show Lib.trimPrefix (li s) (li t) = _
    unfold Lib.trimPrefix
    rw [if_pos h, ← hy]
    exact List.drop_left
  rw [e, hy]
theorem short_back {r : RefT} (g : Good r) : pparse9 (shortOf (textS tellS (untag r)) r.p) = (r, 0) ∧ li (shortOf (textS tellS (untag r)) r.p) ≠ [] ∧ (shortOf (textS tellS (untag r)) r.p).size ≤ (textS tellS r).size := by
  obtain ⟨a1, a2, a3, a4⟩ := g.at
  obtain ⟨u1, u2⟩ := untag_dp r
  obtain ⟨v1, v2, v3, v4, v5⟩ := untag_tail r g
  have hs := textS_tail (untag r)
  rw [u1, u2, v2, v3] at hs
  have hsr := textS_tail r
  have hm : (64 : UInt8) ∉ li r.d ++ 47 :: li r.p := fun h => by
    rcases List.mem_append.1 h with h | h
    · exact a1 h
    · rcases List.mem_cons.1 h with h | h
      · exact absurd h (by decide)
      · exact a2 h
  have hz := g.s
  have z1 := congrArg List.length hs
  have z2 := congrArg List.length hsr
  rw [List.length_append, li_size] at z1 z2
  obtain ⟨s, es⟩ : ∃ s, s = textS tellS (untag r) := ⟨_, rfl⟩
  rw [← es] at hs z1 ⊢
  have whole : pparse9 s = (r, 0) ∧ li s ≠ [] ∧ s.size ≤ (textS tellS r).size := by
    refine ⟨?_, by rw [hs]; simp, by omega⟩
    have := parse_tail (n := ofL (li r.d ++ 47 :: li r.p)) (s := s) (t := (untag r).t) (x := r.x) (b := r.b) hs (by omega) (by rw [li_ofL]; exact hm) (by rw [li_ofL]; exact shut_slash a3) v1 g.l.x g.l.n g.x
    rw [this, v4]
    exact mid_dom g (li_ofL _)
  have hcut : cutF s 47 = true := (cutF_iff _ _).2 (by rw [hs]; simp)
  have hA : cutA s 47 = r.d := by
    obtain ⟨e, hn2⟩ := cut_true hcut
    rw [hs, List.append_assoc] at e
    exact li_inj (uniq_cut _ _ _ _ a4 hn2 e).1.symm
  have hp : hpS s hubT = isS r.d [100, 111, 99, 107, 101, 114, 46, 105, 111] := by
    have := prefix_cut (s := s) (w := [100, 111, 99, 107, 101, 114, 46, 105, 111]) (by decide)
    rw [hcut, hA, Bool.true_and] at this
    exact this
  unfold shortOf
  rw [hp]
  cases hd : isS r.d [100, 111, 99, 107, 101, 114, 46, 105, 111] with
  | false => exact whole
  | true =>
    rw [hd] at hp
    have ed : li r.d = [100, 111, 99, 107, 101, 114, 46, 105, 111] := (isS_li _ _).1 hd
    have et : li (tpS s hubT) = li r.p ++ tail (untag r).t r.x r.b := by
      have h1 := li_tp hp
      rw [hs, ed] at h1
      have h2 : li hubT = [100, 111, 99, 107, 101, 114, 46, 105, 111] ++ [47] := rfl
      rw [h2] at h1
      have h3 : ([100, 111, 99, 107, 101, 114, 46, 105, 111] ++ [47] : List UInt8) ++ (li r.p ++ tail (untag r).t r.x r.b) = ([100, 111, 99, 107, 101, 114, 46, 105, 111] ++ [47]) ++ li (tpS s hubT) := by
        rw [← h1]; simp
      exact (List.append_cancel_left h3).symm
    have zt := congrArg List.length et
    rw [List.length_append, li_size] at zt
    simp only [List.length_append, List.length_cons] at z1 z2
    simp only [Bool.not_true, cond_false]
    cases hl : hpS r.p libT && !hasSlash (tpS r.p libT) with
    | true =>
      rw [Bool.and_eq_true, Bool.not_eq_true'] at hl
      have ep := li_tp hl.1
      have el : (li libT).length = 8 := rfl
      have e18 : li ((tpS s hubT).extract 8 (tpS s hubT).size) = li (tpS r.p libT) ++ tail (untag r).t r.x r.b := by
        rw [li_extract, List.take_of_length_le (by rw [li_size]; exact Nat.le_refl _), et, ep, List.append_assoc, ← el, List.drop_left]
      have hne : li (tpS r.p libT) ≠ [] := fun hnil => by
        have hspl : spl 47 (li r.p) = [[108, 105, 98, 114, 97, 114, 121], []] := by
          rw [ep, hnil]
          rfl
        have := (path_part g.p [] (by rw [hspl]; simp)).1
        cases this
      have hsub : ∀ c : UInt8, c ∈ li (tpS r.p libT) → c ∈ li r.p := fun c hc => by rw [ep]; exact List.mem_append_right _ hc
      have z3 := congrArg List.length e18
      have z4 := congrArg List.length ep
      simp only [List.length_append] at z3 z4
      rw [el] at z4
      rw [li_size ((tpS s hubT).extract 8 (tpS s hubT).size)] at z3
      simp only [cond_true]
      refine ⟨?_, by rw [e18]; simp [hne], by omega⟩
      have := parse_tail (n := tpS r.p libT) (t := (untag r).t) (x := r.x) (b := r.b) e18 (by omega) (fun h => a2 (hsub _ h)) (shut_none fun h => a3 (hsub _ h)) v1 g.l.x g.l.n g.x
      rw [this, v4]
      exact mid_lib g hd (li_inj (by rw [li_append]; exact ep)) hl.2
    | false =>
      simp only [cond_false]
      cases hsp : isS (splitD r.p) [] with
      | false => exact whole
      | true =>
        simp only [Bool.not_true, cond_false]
        refine ⟨?_, by rw [et]; simp [path_ne g.p], by omega⟩
        have := parse_tail (n := r.p) (t := (untag r).t) (x := r.x) (b := r.b) et (by omega) a2 (shut_none a3) v1 g.l.x g.l.n g.x
        rw [this, v4]
        exact mid_path g hd hsp
/-- The text of a name that may be, and its short one, are read as that name. -/
theorem back_law {r : RefT} (hl : RefL r) (h : checkS r = 0) : isS (ptextS r) [] = false ∧ isS (pshortS r) [] = false ∧ (pshortS r).size ≤ (ptextS r).size ∧ pparse9 (ptextS r) = (r, 0) ∧ pparse9 (pshortS r) = (r, 0) := by
  have g := good_of hl h
  have e1 : ptextS r = textS tellS r := by unfold ptextS; rw [h]; rfl
  have e2 : pshortS r = shortOf (textS tellS (untag r)) r.p := by unfold pshortS; rw [h]; rfl
  obtain ⟨s1, s2, s3⟩ := short_back g
  rw [e1, e2]
  refine ⟨?_, ?_, s3, text_back g, s1⟩
  · rw [Bool.eq_false_iff]
    intro hn
    have := (isS_nil _).1 hn
    rw [textS_tail] at this
    simp at this
  · rw [Bool.eq_false_iff]
    intro hn
    exact s2 ((isS_nil _).1 hn)
theorem none_law {r : RefT} (h : checkS r ≠ 0) : isS (ptextS r) [] = true ∧ isS (pshortS r) [] = true := by
  have hb : (checkS r != 0) = true := by simpa using h
  unfold ptextS pshortS
  rw [hb]
  exact ⟨by kernel_rfl, by kernel_rfl⟩
theorem pend_cases (r : RefT) : ((pend r).2 = 0 ∧ checkS (pend r).1 = 0) ∨ pend r = (zeroR, 10) := by
  unfold PM.pend
  rcases check_two r with h | h
  · rw [h]; exact .inl ⟨rfl, h⟩
  · rw [h]; exact .inr rfl
theorem pfin_cases (d p t : ByteArray) (x : List Int) (b : Bool) : ((pfin d p t x b).2 = 0 ∧ checkS (pfin d p t x b).1 = 0) ∨ pfin d p t x b = (zeroR, 10) := by
  unfold pfin
  cases isS d [100, 111, 99, 107, 101, 114, 46, 105, 111] && !hasSlash p <;> exact pend_cases _
theorem pmid_cases (n t : ByteArray) (x : List Int) (b : Bool) : ((pmid n t x b).2 = 0 ∧ checkS (pmid n t x b).1 = 0) ∨ pmid n t x b = (zeroR, 10) := by
  unfold pmid
  cases isS (splitD n) [] || isS (splitD n) [105, 110, 100, 101, 120, 46, 100, 111, 99, 107, 101, 114, 46, 105, 111] <;> exact pfin_cases _ _ _ _ _
theorem ptag_cases (n : ByteArray) (x : List Int) (b : Bool) : ((ptag n x b).2 = 0 ∧ checkS (ptag n x b).1 = 0) ∨ ptag n x b = (zeroR, 10) := by
  unfold ptag
  cases decide (lastI n ≥ 0) && !hasSlash (n.extract (lastI n).toNat n.size) with
  | true =>
    cases isS (n.extract ((lastI n).toNat + 1) n.size) [] with
    | true => exact .inr rfl
    | false => exact pmid_cases _ _ _ _
  | false => cases b <;> exact pmid_cases _ _ _ _
/-- What is read of a text may be, or it is none. -/
theorem parse_cases (s : ByteArray) : ((pparse9 s).2 = 0 ∧ checkS (pparse9 s).1 = 0) ∨ (pparse9 s = (zeroR, 10) ∧ s.size ≤ 200) ∨ (pparse9 s = (zeroR, 3) ∧ 200 < s.size) := by
  unfold pparse9
  cases hs : decide ((s.size : Int) > 200) with
  | true => have := of_decide_eq_true hs; exact .inr (.inr ⟨rfl, by omega⟩)
  | false =>
    have := of_decide_eq_false hs
    simp only [cond_false]
    cases cutF s 64 with
    | false =>
      rcases ptag_cases (cutA s 64) zerosL false with h | h
      · exact .inl h
      · exact .inr (.inl ⟨h, by omega⟩)
    | true =>
      cases pparseE (cutZ s 64) != 0 with
      | true => exact .inr (.inl ⟨rfl, by omega⟩)
      | false =>
        rcases ptag_cases (cutA s 64) (pparseX (cutZ s 64)) true with h | h
        · exact .inl h
        · exact .inr (.inl ⟨h, by omega⟩)
end Go.Proofs.YtofcjkbgieenlaaDoor.PM

namespace Go.Proofs.YtofcjkbgieenlaaDoor.PM
open Go Go.Proofs Go.Proofs.YtofcjkbgieenlaaDoor.Hand
set_option maxRecDepth 100000
set_option linter.unusedVariables false
set_option linter.unusedSimpArgs false

def hubB : ByteArray := ⟨#[100, 111, 99, 107, 101, 114, 46, 105, 111]⟩
def Wk (k : Nat) : ByteArray := (ByteArray.mk #[97, 98, 99, 100, 101, 102, 103, 104, 105, 106, 107, 108, 109, 110, 111, 112, 113, 114, 115, 116, 117, 118, 119, 120, 121, 122]).extract 0 (k + 1)
def Tm (m : Nat) : ByteArray := ⟨#[118, UInt8.ofNat (48 + m)]⟩
def Rw (w t : ByteArray) : RefT := ⟨hubB, libT ++ w, t, zerosL, false⟩
def regB : ByteArray := ⟨#[114, 101, 103, 46, 101, 120, 97, 109, 112, 108, 101, 58, 53, 48, 48, 48]⟩
def latB : ByteArray := ⟨#[108, 97, 116, 101, 115, 116]⟩
theorem w_path : ((List.range 26).all fun k => pathPS (libT ++ Wk k) && (pathPS (Wk k ++ ⟨#[47]⟩ ++ Wk k) && ((li (Wk k)).all fun c => c != 47 && (c != 58 && c != 64)) && Nat.ble (Wk k).size 26 && Nat.ble 1 (Wk k).size)) = true := by kernel_rfl
theorem t_tag : ((List.range 10).all fun m => tagS (Tm m) && (!isS (Tm m) [] && (!isS (Tm m) [108, 97, 116, 101, 115, 116] && Nat.beq (Tm m).size 2))) = true := by kernel_rfl
structure Word (w : ByteArray) : Prop where
  p : pathPS (libT ++ w) = true
  q : pathPS (w ++ ⟨#[47]⟩ ++ w) = true
  c : (47 : UInt8) ∉ li w ∧ (58 : UInt8) ∉ li w ∧ (64 : UInt8) ∉ li w
  s : w.size ≤ 26
  e : 1 ≤ w.size
structure Tag2 (t : ByteArray) : Prop where
  g : tagS t = true
  e : isS t [] = false
  l : isS t [108, 97, 116, 101, 115, 116] = false
  s : t.size = 2
theorem word_of (k : Nat) (h : k < 26) : Word (Wk k) := by
  have := List.all_eq_true.1 w_path k (List.mem_range.2 h)
  simp only [Bool.and_eq_true] at this
  obtain ⟨h1, ⟨⟨h2, h3⟩, h4⟩, h5⟩ := this
  have hc : ∀ c ∈ li (Wk k), c ≠ 47 ∧ c ≠ 58 ∧ c ≠ 64 := fun c hc => by
    have := List.all_eq_true.1 h3 c hc
    simpa using this
  exact ⟨h1, h2, ⟨fun h => (hc _ h).1 rfl, fun h => (hc _ h).2.1 rfl, fun h => (hc _ h).2.2 rfl⟩, Nat.le_of_ble_eq_true h4, Nat.le_of_ble_eq_true h5⟩
theorem tag_of (m : Nat) (h : m < 10) : Tag2 (Tm m) := by
  have := List.all_eq_true.1 t_tag m (List.mem_range.2 h)
  simp only [Bool.and_eq_true, Bool.not_eq_true'] at this
  exact ⟨this.1, this.2.1, this.2.2.1, Nat.eq_of_beq_eq_true this.2.2.2⟩
theorem li_lib : li libT = [108, 105, 98, 114, 97, 114, 121, 47] := rfl
theorem tell_len {x : List Int} (h1 : bytesL x) (h2 : x.length = 32) : (li (tellS x)).length = 71 := by rw [li_size, tellS_size h1]
theorem hub_zeros : bytesL zerosL := zeros_bytes
theorem good_w {w t : ByteArray} (hw : Word w) (ht : Tag2 t) : Good (Rw w t) := by
  refine ⟨by show domainPS hubB = true; kernel_rfl, hw.p, ?_, .inr rfl, ?_, ?_, ⟨zeros_bytes, rfl⟩⟩
  · show taggedS ⟨hubB, libT ++ w, t, zerosL, false⟩ = true
    unfold taggedS
    simp only [ht.e, ht.g, Bool.not_false, Bool.true_and, Bool.true_or]
  · show knownS ⟨hubB, libT ++ w, t, zerosL, false⟩ = true
    unfold knownS
    have h1 : toldS hubB = true := by kernel_rfl
    have h2 : isS hubB [105, 110, 100, 101, 120, 46, 100, 111, 99, 107, 101, 114, 46, 105, 111] = false := by kernel_rfl
    have h3 : hasSlash (libT ++ w) = true := by
      rw [hasSlash_cut, cutF_iff, li_append, li_lib]
      simp
    simp only [h1, h2, h3, Bool.or_true, Bool.not_false, Bool.and_self]
  · have h := congrArg List.length (textS_tail (Rw w t))
    rw [li_size] at h
    rw [h]
    show (li hubB ++ 47 :: li (libT ++ w) ++ tail t zerosL false).length ≤ 200
    unfold tail
    rw [ht.e]
    have := hw.s
    have := ht.s
    simp only [Bool.not_false, cond_true, cond_false, List.length_append, List.length_cons, List.length_nil, li_size, ByteArray.size_append, show hubB.size = 9 from rfl, show libT.size = 8 from rfl]
    omega
theorem tail_w {t : ByteArray} (ht : Tag2 t) : tail t zerosL false = 58 :: li t := by
  unfold tail
  rw [ht.e]
  simp
theorem tagOk_w {t : ByteArray} (ht : Tag2 t) : TagOk t := .inr ht.g
theorem val_w {t : ByteArray} (ht : Tag2 t) : (bif isS t [] then (bif false then (⟨#[]⟩ : ByteArray) else (ByteArray.mk #[108, 97, 116, 101, 115, 116])) else t) = t := by rw [ht.e]; rfl
/-- Any text of a name with a tag. -/
theorem parse_w {n t s : ByteArray} (ht : Tag2 t) (hs : s = n ++ ⟨#[58]⟩ ++ t) (hz : n.size ≤ 100) (h64 : (64 : UInt8) ∉ li n) (hsh : Shut (li n)) : pparse9 s = pmid n t zerosL false := by
  have e : li s = li n ++ tail t zerosL false := by
    rw [hs, li_append, li_append, tail_w ht]
    simp [li]
  have hl := congrArg List.length e
  rw [tail_w ht, li_size, List.length_append, List.length_cons, li_size, li_size, ht.s] at hl
  rw [parse_tail e (by omega) h64 hsh (tagOk_w ht) zeros_bytes rfl (.inr rfl), val_w ht]
theorem lib_no {w : ByteArray} (hw : Word w) {c : UInt8} (h : c = 58 ∨ c = 64) : c ∉ li (libT ++ w) := by
  rw [li_append, li_lib]
  intro hm
  rcases List.mem_append.1 hm with hm | hm
  · rcases h with rfl | rfl <;> exact absurd hm (by decide)
  · rcases h with rfl | rfl
    · exact hw.c.2.1 hm
    · exact hw.c.2.2 hm
theorem hub_app (w z : ByteArray) : w ++ ⟨#[47]⟩ ++ z = w ++ ⟨#[47]⟩ ++ z := rfl
/-- A name behind a domain that has no slash. -/
theorem mid_front {d z : ByteArray} (hd : (47 : UInt8) ∉ li d) (ht : toldS d = true) : splitD (d ++ ⟨#[47]⟩ ++ z) = d ∧ splitR (d ++ ⟨#[47]⟩ ++ z) = z := by
  obtain ⟨c1, c2, c3⟩ := cut_app d z 47 hd
  unfold splitD splitR
  rw [c1, c2, c3, ht]
  exact ⟨rfl, rfl⟩
def idxB : ByteArray := ⟨#[105, 110, 100, 101, 120, 46, 100, 111, 99, 107, 101, 114, 46, 105, 111]⟩
theorem not_mem_app {c : UInt8} {d z : ByteArray} (h1 : c ∉ li d) (h2 : c ≠ 47) (h3 : c ∉ li z) : c ∉ li (d ++ ⟨#[47]⟩ ++ z) := by
  rw [li_append, li_append]
  intro h
  rcases List.mem_append.1 h with h | h
  · rcases List.mem_append.1 h with h | h
    · exact h1 h
    · have h : c ∈ [(47 : UInt8)] := h
      exact h2 (List.mem_singleton.1 h)
  · exact h3 h
theorem slash_w {w : ByteArray} (hw : Word w) : hasSlash w = false := by
  rw [hasSlash_cut, Bool.eq_false_iff]
  exact fun h => hw.c.1 ((cutF_iff _ _).1 h)
theorem slash_l {w : ByteArray} : hasSlash (libT ++ w) = true := by
  rw [hasSlash_cut, cutF_iff, li_append, li_lib]
  simp
theorem lib_split {w : ByteArray} (hw : Word w) : isS (splitD (libT ++ w)) [] = true := by
  have e : libT ++ w = (⟨#[108, 105, 98, 114, 97, 114, 121]⟩ : ByteArray) ++ ⟨#[47]⟩ ++ w := li_inj (by simp [li_append, li])
  obtain ⟨c1, c2, c3⟩ := cut_app (⟨#[108, 105, 98, 114, 97, 114, 121]⟩ : ByteArray) w 47 (by decide)
  rw [← e] at c1 c2 c3
  unfold splitD
  rw [c1, c2, show toldS (⟨#[108, 105, 98, 114, 97, 114, 121]⟩ : ByteArray) = false from by kernel_rfl]
  show isS (⟨#[]⟩ : ByteArray) [] = true
  kernel_rfl
theorem made_1 {w t : ByteArray} (hw : Word w) (ht : Tag2 t) : pparse9 (w ++ ⟨#[58]⟩ ++ t) = (Rw w t, 0) := by
  have hs := hw.s
  rw [parse_w ht rfl (by omega) hw.c.2.2 (shut_none hw.c.2.1)]
  exact mid_lib (r := Rw w t) (good_w hw ht) (by show isS hubB _ = true; kernel_rfl) rfl (slash_w hw)
theorem made_2 {w t : ByteArray} (hw : Word w) (ht : Tag2 t) : pparse9 (libT ++ w ++ ⟨#[58]⟩ ++ t) = (Rw w t, 0) := by
  have hs := hw.s
  rw [parse_w ht rfl (by rw [ByteArray.size_append, show libT.size = 8 from rfl]; omega) (lib_no hw (.inr rfl)) (shut_none (lib_no hw (.inl rfl)))]
  exact mid_path (r := Rw w t) (good_w hw ht) (by show isS hubB _ = true; kernel_rfl) (lib_split hw)
theorem made_3 {w t : ByteArray} (hw : Word w) (ht : Tag2 t) : pparse9 (hubT ++ w ++ ⟨#[58]⟩ ++ t) = (Rw w t, 0) := by
  have hs := hw.s
  have e : hubT ++ w = hubB ++ ⟨#[47]⟩ ++ w := li_inj (by simp [li_append, li, hubB])
  rw [parse_w ht rfl (by rw [ByteArray.size_append, show hubT.size = 10 from rfl]; omega) (by rw [e]; exact not_mem_app (by decide) (by decide) hw.c.2.2) (shut_none (by rw [e]; exact not_mem_app (by decide) (by decide) hw.c.2.1))]
  obtain ⟨m1, m2⟩ := mid_front (d := hubB) (z := w) (by decide) (by kernel_rfl)
  rw [e]
  unfold pmid
  rw [m1, m2, show isS hubB [] = false from by kernel_rfl, show isS hubB [105, 110, 100, 101, 120, 46, 100, 111, 99, 107, 101, 114, 46, 105, 111] = false from by kernel_rfl]
  show pfin hubB w t zerosL false = _
  unfold pfin
  rw [slash_w hw, show isS hubB [100, 111, 99, 107, 101, 114, 46, 105, 111] = true from by kernel_rfl]
  exact (good_w hw ht).pend
theorem made_4 {w t : ByteArray} (hw : Word w) (ht : Tag2 t) : pparse9 (hubT ++ libT ++ w ++ ⟨#[58]⟩ ++ t) = (Rw w t, 0) := by
  have hs := hw.s
  have e : hubT ++ libT ++ w = hubB ++ ⟨#[47]⟩ ++ (libT ++ w) := li_inj (by simp [li_append, li, hubB])
  rw [parse_w ht rfl (by rw [ByteArray.size_append, show (hubT ++ libT).size = 18 from rfl]; omega) (by rw [e]; exact not_mem_app (by decide) (by decide) (lib_no hw (.inr rfl))) (shut_none (by rw [e]; exact not_mem_app (by decide) (by decide) (lib_no hw (.inl rfl))))]
  exact mid_dom (r := Rw w t) (good_w hw ht) (by rw [e]; simp [li_append, li, Rw, hubB])
theorem made_5 {w t : ByteArray} (hw : Word w) (ht : Tag2 t) : pparse9 (idxB ++ ⟨#[47]⟩ ++ libT ++ w ++ ⟨#[58]⟩ ++ t) = (Rw w t, 0) := by
  have hs := hw.s
  have e : idxB ++ ⟨#[47]⟩ ++ libT ++ w = idxB ++ ⟨#[47]⟩ ++ (libT ++ w) := li_inj (by simp [li_append, li])
  rw [parse_w ht rfl (by rw [ByteArray.size_append, show (idxB ++ ⟨#[47]⟩ ++ libT).size = 24 from rfl]; omega) (by rw [e]; exact not_mem_app (by decide) (by decide) (lib_no hw (.inr rfl))) (shut_none (by rw [e]; exact not_mem_app (by decide) (by decide) (lib_no hw (.inl rfl))))]
  obtain ⟨m1, m2⟩ := mid_front (d := idxB) (z := libT ++ w) (by decide) (by kernel_rfl)
  rw [e]
  unfold pmid
  rw [m1, m2, show isS idxB [] = false from by kernel_rfl, show isS idxB [105, 110, 100, 101, 120, 46, 100, 111, 99, 107, 101, 114, 46, 105, 111] = true from by kernel_rfl]
  show pfin hubB (libT ++ w) t zerosL false = _
  unfold pfin
  rw [slash_l, Bool.not_true, Bool.and_false, cond_false]
  exact (good_w hw ht).pend
theorem hub_pre {r : RefT} (g : Good r) : hpS (textS tellS (untag r)) hubT = isS r.d [100, 111, 99, 107, 101, 114, 46, 105, 111] := by
  obtain ⟨u1, u2⟩ := untag_dp r
  have hs := textS_tail (untag r)
  rw [u1, u2] at hs
  have hcut : cutF (textS tellS (untag r)) 47 = true := (cutF_iff _ _).2 (by rw [hs]; simp)
  have hA : cutA (textS tellS (untag r)) 47 = r.d := by
    obtain ⟨e, hn2⟩ := cut_true hcut
    rw [hs, List.append_assoc] at e
    exact li_inj (uniq_cut _ _ _ _ g.at.2.2.2 hn2 e).1.symm
  have := prefix_cut (s := textS tellS (untag r)) (w := [100, 111, 99, 107, 101, 114, 46, 105, 111]) (by decide)
  rw [hcut, hA, Bool.true_and] at this
  exact this
theorem untag_w {w t : ByteArray} (ht : Tag2 t) : untag (Rw w t) = Rw w t := by
  show (bif isS t [108, 97, 116, 101, 115, 116] && !false then _ else _) = _
  rw [ht.l]
  rfl
theorem short_w {w t : ByteArray} (hw : Word w) (ht : Tag2 t) : pshortS (Rw w t) = w ++ ⟨#[58]⟩ ++ t := by
  have g := good_w hw ht
  have hp := hub_pre g
  rw [show isS (Rw w t).d [100, 111, 99, 107, 101, 114, 46, 105, 111] = true from by show isS hubB _ = true; kernel_rfl] at hp
  unfold pshortS
  rw [g.zero]
  show shortOf (textS tellS (untag (Rw w t))) (libT ++ w) = _
  have h1 := li_tp hp
  rw [untag_w ht] at hp h1 ⊢
  rw [textS_tail] at h1
  have hl : hpS (libT ++ w) libT = true := List.isPrefixOf_iff_prefix.2 ⟨li w, by rw [← li_append]⟩
  have hw2 := li_tp hl
  rw [li_append] at hw2
  have hw3 : tpS (libT ++ w) libT = w := li_inj (List.append_cancel_left hw2).symm
  have e1 : li hubT ++ li (tpS (textS tellS (Rw w t)) hubT) = li hubT ++ (li libT ++ (li w ++ 58 :: li t)) := by
    rw [← h1]
    show li hubB ++ 47 :: li (libT ++ w) ++ tail t zerosL false = _
    rw [tail_w ht, li_append]
    simp [li, hubB]
  have e2 := List.append_cancel_left e1
  unfold shortOf
  rw [hp, hl, hw3, slash_w hw]
  show (tpS (textS tellS (Rw w t)) hubT).extract 8 (tpS (textS tellS (Rw w t)) hubT).size = _
  apply li_inj
  rw [li_extract, List.take_of_length_le (by rw [li_size]; exact Nat.le_refl _), e2, show (8 : Nat) = (li libT).length from rfl, List.drop_left]
  simp [li_append, li]
def Own (w t : ByteArray) (x : List Int) : RefT := ⟨regB, w ++ ⟨#[47]⟩ ++ w, t, x, true⟩
theorem good_own {w t : ByteArray} (hw : Word w) (ht : t = ⟨#[]⟩ ∨ t = latB) {x : List Int} (h1 : bytesL x) (h2 : x.length = 32) : Good (Own w t x) := by
  refine ⟨by show domainPS regB = true; kernel_rfl, hw.q, ?_, .inl rfl, ?_, ?_, ⟨h1, h2⟩⟩
  · show ((!isS t [] && tagS t) || (isS t [] && true)) = true
    rcases ht with rfl | rfl <;> kernel_rfl
  · show (toldS regB && (!isS regB [105, 110, 100, 101, 120, 46, 100, 111, 99, 107, 101, 114, 46, 105, 111] && (!isS regB [100, 111, 99, 107, 101, 114, 46, 105, 111] || hasSlash (w ++ ⟨#[47]⟩ ++ w)))) = true
    have e1 : toldS regB = true := by kernel_rfl
    have e2 : isS regB [105, 110, 100, 101, 120, 46, 100, 111, 99, 107, 101, 114, 46, 105, 111] = false := by kernel_rfl
    have e3 : isS regB [100, 111, 99, 107, 101, 114, 46, 105, 111] = false := by kernel_rfl
    rw [e1, e2, e3]
    rfl
  · have h := congrArg List.length (textS_tail (Own w t x))
    rw [li_size] at h
    rw [h]
    show (li regB ++ 47 :: li (w ++ ⟨#[47]⟩ ++ w) ++ tail t x true).length ≤ 200
    unfold tail
    have := hw.s
    have hz : (li t).length ≤ 6 := by rcases ht with rfl | rfl <;> decide
    have hb : (bif !isS t [] then 58 :: li t else []).length ≤ 7 := by
      cases isS t []
      · simp only [Bool.not_false, cond_true, List.length_cons]; omega
      · exact Nat.zero_le _
    simp only [cond_true, List.length_append, List.length_cons, tell_len h1 h2, li_size, ByteArray.size_append, show regB.size = 16 from rfl, show (ByteArray.mk #[47]).size = 1 from rfl] at hb ⊢
    omega
theorem own_law {w t : ByteArray} (hw : Word w) (ht : t = ⟨#[]⟩ ∨ t = latB) {x : List Int} (h1 : bytesL x) (h2 : x.length = 32) : pparse9 (ptextS (Own w t x)) = (Own w t x, 0) ∧ pshortS (Own w t x) = ptextS (Own w t x) := by
  have g := good_own hw ht h1 h2
  refine ⟨(back_law g.l g.zero).2.2.2.1, ?_⟩
  have hu : untag (Own w t x) = Own w t x := by
    show (bif isS t [108, 97, 116, 101, 115, 116] && !true then _ else _) = _
    rw [Bool.not_true, Bool.and_false]
    rfl
  have hp := hub_pre g
  rw [show isS (Own w t x).d [100, 111, 99, 107, 101, 114, 46, 105, 111] = false from by show isS regB _ = false; kernel_rfl] at hp
  unfold pshortS ptextS
  rw [g.zero]
  show shortOf (textS tellS (untag (Own w t x))) _ = textS tellS (Own w t x)
  unfold shortOf
  rw [hp, hu]
  rfl
end Go.Proofs.YtofcjkbgieenlaaDoor.PM

namespace Go.Proofs.YtofcjkbgieenlaaDoor.PM
open Go Go.Proofs Go.RowKit
set_option maxRecDepth 100000
set_option linter.unusedVariables false
set_option linter.unusedSimpArgs false

theorem ptext_size (r : RefT) : (ptextS r).size ≤ 200 := by
  unfold ptextS
  cases h : checkS r != 0 with
  | true => exact Nat.zero_le _
  | false =>
    have h0 : checkS r = 0 := by simpa using h
    unfold checkS at h0
    cases hs : decide (((textS tellS r).size : Int) > 200) with
    | true => rw [hs] at h0; simp at h0
    | false => have := of_decide_eq_false hs; simp only [cond_false]; omega
def backG : Pure
  | [.agg ⟨l⟩] => match isRef l with
    | some r => some (RefL r ∧ RefP r ∧ checkS r = 0, .bool true)
    | none => none
  | _ => none
theorem eqR_self (r : RefT) : ((r.d.toList == r.d.toList) && ((r.p.toList == r.p.toList) && ((r.t.toList == r.t.toList) && ((eqD r.x r.x) && ((r.b == r.b) && true))))) = true := by
  rw [eqs, eqs, eqs, eqD_self, beq_self_eq_true]
  rfl
attribute [local irreducible] checkS ptextS pshortS pparse9
theorem back_ok : PureOk Tryd.prog 17 backG := by
  refine .of_run (call := callOf [(11, pureS (refPG fun r => .string (ptextS r))), (13, pureS (refPG fun r => .string (pshortS r))), (9, pureS pparse9G)]) (hint := hints 17) (tb := noTab) hm (callOf_cons pText_ok.spec (callOf_cons short_ok.spec (callOf_cons pparse9_ok.spec callOf_nil))) Tryd.func17 (by kernel_rfl) rfl (by kernel_rfl) (by repeat' first | exact trivial | constructor |  (intro _ h; cases h)) fun args c r h => ?_
  unfold backG at h
  split at h
  · rename_i l
    split at h
    · rename_i r hr
      cases h
      refine ⟨by show (plainL l && true) = true; rw [plain_ref hr]; rfl, fun hs => ⟨rfl, 1, fun K hK => ?_⟩⟩
      obtain ⟨h1, h2⟩ := isRef_some hr
      rw [h1]
      have hd := decI_digL h2
      have he : RefT.mk r.d r.p r.t (decI (digL r.x)) r.b = r := by rw [hd]
      have hK := hK []
      refine to (R := (RefP (RefT.mk r.d r.p r.t (decI (digL r.x)) r.b)) ∧ ((RefP (RefT.mk r.d r.p r.t (decI (digL r.x)) r.b)) ∧ (((ptextS (RefT.mk r.d r.p r.t (decI (digL r.x)) r.b)).size < 536870912) ∧ (((pshortS (RefT.mk r.d r.p r.t (decI (digL r.x)) r.b)).size < 536870912) ∧ (bcase (!((ptextS (RefT.mk r.d r.p r.t (decI (digL r.x)) r.b)).toList == (ByteArray.mk #[]).toList)) (bcase (!((pshortS (RefT.mk r.d r.p r.t (decI (digL r.x)) r.b)).toList == (ByteArray.mk #[]).toList)) (bcase (decide ((↑(pshortS (RefT.mk r.d r.p r.t (decI (digL r.x)) r.b)).size : Int) ≤ (↑(ptextS (RefT.mk r.d r.p r.t (decI (digL r.x)) r.b)).size : Int))) (bcase ((pparse9 (ptextS (RefT.mk r.d r.p r.t (decI (digL r.x)) r.b))).snd == (0 : Int)) (bcase ((pparse9 (pshortS (RefT.mk r.d r.p r.t (decI (digL r.x)) r.b))).snd == (0 : Int)) (bcase (((pparse9 (ptextS (RefT.mk r.d r.p r.t (decI (digL r.x)) r.b))).fst.d.toList == r.d.toList) && (((pparse9 (ptextS (RefT.mk r.d r.p r.t (decI (digL r.x)) r.b))).fst.p.toList == r.p.toList) && (((pparse9 (ptextS (RefT.mk r.d r.p r.t (decI (digL r.x)) r.b))).fst.t.toList == r.t.toList) && ((eqD (pparse9 (ptextS (RefT.mk r.d r.p r.t (decI (digL r.x)) r.b))).fst.x r.x) && (((pparse9 (ptextS (RefT.mk r.d r.p r.t (decI (digL r.x)) r.b))).fst.b == r.b) && true))))) (K (.bool (((pparse9 (pshortS (RefT.mk r.d r.p r.t (decI (digL r.x)) r.b))).fst.d.toList == r.d.toList) && (((pparse9 (pshortS (RefT.mk r.d r.p r.t (decI (digL r.x)) r.b))).fst.p.toList == r.p.toList) && (((pparse9 (pshortS (RefT.mk r.d r.p r.t (decI (digL r.x)) r.b))).fst.t.toList == r.t.toList) && ((eqD (pparse9 (pshortS (RefT.mk r.d r.p r.t (decI (digL r.x)) r.b))).fst.x r.x) && (((pparse9 (pshortS (RefT.mk r.d r.p r.t (decI (digL r.x)) r.b))).fst.b == r.b) && true)))))) []) (K (.bool false) [])) (K (.bool false) [])) (K (.bool false) [])) (K (.bool false) [])) (K (.bool false) [])) (K (.bool false) [])))))) (by kernel_rfl) ?_
      simp only [he]
      clear h1 hr
      obtain ⟨hL, hP, h0⟩ := hs
      obtain ⟨b1, b2, b3, b4, b5⟩ := back_law hL h0
      have z1 := ptext_size r
      simp only [b4, b5]
      rw [eqR_self r]
      exact ⟨hP, hP, by omega, by omega, bcase_t (by show (!(isS (ptextS r) [])) = true; rw [b1]; rfl) (bcase_t (by show (!(isS (pshortS r) [])) = true; rw [b2]; rfl) (bcase_t (decide_eq_true (by omega)) (bcase_t (beq_self_eq_true _) (bcase_t (beq_self_eq_true _) (bcase_t rfl hK)))))⟩
    · cases h
  · cases h
def law6G : Pure
  | [.agg ⟨l⟩, .string s] => match isRef l with
    | some r => some (RefL r ∧ s.size < 2 ^ 62, .bool true)
    | none => none
  | _ => none
theorem zeroR_eqs : ((zeroR.d.toList == (ByteArray.mk #[]).toList) && ((zeroR.p.toList == (ByteArray.mk #[]).toList) && ((zeroR.t.toList == (ByteArray.mk #[]).toList) && ((eqD zeroR.x zerosI) && ((zeroR.b == false) && true))))) = true := by kernel_rfl
theorem law6_ok : PureOk Tryd.prog 6 law6G := by
  refine .of_run (call := callOf [(8, pureS namedG), (15, pureS (refPG fun r => .int .i64 (checkS r))), (17, pureS backG), (11, pureS (refPG fun r => .string (ptextS r))), (13, pureS (refPG fun r => .string (pshortS r))), (9, pureS pparse9G)]) (hint := hints 6) (tb := noTab) hm (callOf_cons named_ok.spec (callOf_cons check_ok.spec (callOf_cons back_ok.spec (callOf_cons pText_ok.spec (callOf_cons short_ok.spec (callOf_cons pparse9_ok.spec callOf_nil)))))) Tryd.func6 (by kernel_rfl) rfl (by kernel_rfl) (by repeat' first | exact trivial | constructor |  (intro _ h; cases h)) fun args c r h => ?_
  unfold law6G at h
  split at h
  · rename_i l s
    split at h
    · rename_i r hr
      cases h
      refine ⟨by show (plainL l && true) = true; rw [plain_ref hr]; rfl, fun hs => ⟨rfl, 1, fun K hK => ?_⟩⟩
      obtain ⟨h1, h2⟩ := isRef_some hr
      rw [h1]
      have hd := decI_digL h2
      have he : RefT.mk r.d r.p r.t (decI (digL r.x)) r.b = r := by rw [hd]
      have hK := hK []
      refine to (R := bcase (decide ((↑r.d.size : Int) > (300 : Int))) (True ∧ (K (.bool true) [])) (bcase (decide ((↑r.p.size : Int) > (300 : Int))) (True ∧ (K (.bool true) [])) (bcase (decide ((↑r.t.size : Int) > (300 : Int))) (True ∧ (K (.bool true) [])) (bcase (decide ((↑s.size : Int) > (300 : Int))) (True ∧ (K (.bool true) [])) ((RefP (RefT.mk r.d r.p r.t (decI (digL r.x)) r.b)) ∧ (bcase ((checkS (RefT.mk r.d r.p r.t (decI (digL r.x)) r.b)) == (0 : Int)) (((RefL (RefT.mk r.d r.p r.t (decI (digL r.x)) r.b)) ∧ ((RefP (RefT.mk r.d r.p r.t (decI (digL r.x)) r.b)) ∧ ((checkS (RefT.mk r.d r.p r.t (decI (digL r.x)) r.b)) = (0 : Int)))) ∧ ((RefP (RefT.mk r.d r.p r.t (decI (digL r.x)) r.b)) ∧ (bcase ((checkS (RefT.mk r.d r.p r.t (decI (digL r.x)) r.b)) != (0 : Int)) ((RefP (RefT.mk r.d r.p r.t (decI (digL r.x)) r.b)) ∧ (bcase (!((ptextS (RefT.mk r.d r.p r.t (decI (digL r.x)) r.b)).toList == (ByteArray.mk #[]).toList)) (K (.bool false) []) ((RefP (RefT.mk r.d r.p r.t (decI (digL r.x)) r.b)) ∧ (bcase (!((pshortS (RefT.mk r.d r.p r.t (decI (digL r.x)) r.b)).toList == (ByteArray.mk #[]).toList)) (K (.bool false) []) ((s.size < 536870912) ∧ (bcase ((pparse9 s).snd != (0 : Int)) (bcase ((pparse9 s).snd == (10 : Int)) (bcase (decide ((↑s.size : Int) ≤ (200 : Int))) (bcase (((pparse9 s).fst.d.toList == (ByteArray.mk #[]).toList) && (((pparse9 s).fst.p.toList == (ByteArray.mk #[]).toList) && (((pparse9 s).fst.t.toList == (ByteArray.mk #[]).toList) && ((eqD (pparse9 s).fst.x zerosI) && (((pparse9 s).fst.b == false) && true))))) (True ∧ (K (.bool true) [])) (K (.bool false) [])) (bcase ((pparse9 s).snd == (3 : Int)) (bcase (decide ((↑s.size : Int) > (200 : Int))) (bcase (((pparse9 s).fst.d.toList == (ByteArray.mk #[]).toList) && (((pparse9 s).fst.p.toList == (ByteArray.mk #[]).toList) && (((pparse9 s).fst.t.toList == (ByteArray.mk #[]).toList) && ((eqD (pparse9 s).fst.x zerosI) && (((pparse9 s).fst.b == false) && true))))) (True ∧ (K (.bool true) [])) (K (.bool false) [])) (K (.bool false) [])) (K (.bool false) []))) (bcase ((pparse9 s).snd == (3 : Int)) (bcase (decide ((↑s.size : Int) > (200 : Int))) (bcase (((pparse9 s).fst.d.toList == (ByteArray.mk #[]).toList) && (((pparse9 s).fst.p.toList == (ByteArray.mk #[]).toList) && (((pparse9 s).fst.t.toList == (ByteArray.mk #[]).toList) && ((eqD (pparse9 s).fst.x zerosI) && (((pparse9 s).fst.b == false) && true))))) (True ∧ (K (.bool true) [])) (K (.bool false) [])) (K (.bool false) [])) (K (.bool false) []))) ((RefP (RefT.mk (pparse9 s).fst.d (pparse9 s).fst.p (pparse9 s).fst.t (decI (digL (pparse9 s).fst.x)) (pparse9 s).fst.b)) ∧ (bcase ((checkS (RefT.mk (pparse9 s).fst.d (pparse9 s).fst.p (pparse9 s).fst.t (decI (digL (pparse9 s).fst.x)) (pparse9 s).fst.b)) == (0 : Int)) (((RefL (RefT.mk (pparse9 s).fst.d (pparse9 s).fst.p (pparse9 s).fst.t (decI (digL (pparse9 s).fst.x)) (pparse9 s).fst.b)) ∧ ((RefP (RefT.mk (pparse9 s).fst.d (pparse9 s).fst.p (pparse9 s).fst.t (decI (digL (pparse9 s).fst.x)) (pparse9 s).fst.b)) ∧ ((checkS (RefT.mk (pparse9 s).fst.d (pparse9 s).fst.p (pparse9 s).fst.t (decI (digL (pparse9 s).fst.x)) (pparse9 s).fst.b)) = (0 : Int)))) ∧ (True ∧ (K (.bool true) []))) (K (.bool false) []))))))))) ((s.size < 536870912) ∧ (bcase ((pparse9 s).snd != (0 : Int)) (bcase ((pparse9 s).snd == (10 : Int)) (bcase (decide ((↑s.size : Int) ≤ (200 : Int))) (bcase (((pparse9 s).fst.d.toList == (ByteArray.mk #[]).toList) && (((pparse9 s).fst.p.toList == (ByteArray.mk #[]).toList) && (((pparse9 s).fst.t.toList == (ByteArray.mk #[]).toList) && ((eqD (pparse9 s).fst.x zerosI) && (((pparse9 s).fst.b == false) && true))))) (True ∧ (K (.bool true) [])) (K (.bool false) [])) (bcase ((pparse9 s).snd == (3 : Int)) (bcase (decide ((↑s.size : Int) > (200 : Int))) (bcase (((pparse9 s).fst.d.toList == (ByteArray.mk #[]).toList) && (((pparse9 s).fst.p.toList == (ByteArray.mk #[]).toList) && (((pparse9 s).fst.t.toList == (ByteArray.mk #[]).toList) && ((eqD (pparse9 s).fst.x zerosI) && (((pparse9 s).fst.b == false) && true))))) (True ∧ (K (.bool true) [])) (K (.bool false) [])) (K (.bool false) [])) (K (.bool false) []))) (bcase ((pparse9 s).snd == (3 : Int)) (bcase (decide ((↑s.size : Int) > (200 : Int))) (bcase (((pparse9 s).fst.d.toList == (ByteArray.mk #[]).toList) && (((pparse9 s).fst.p.toList == (ByteArray.mk #[]).toList) && (((pparse9 s).fst.t.toList == (ByteArray.mk #[]).toList) && ((eqD (pparse9 s).fst.x zerosI) && (((pparse9 s).fst.b == false) && true))))) (True ∧ (K (.bool true) [])) (K (.bool false) [])) (K (.bool false) [])) (K (.bool false) []))) ((RefP (RefT.mk (pparse9 s).fst.d (pparse9 s).fst.p (pparse9 s).fst.t (decI (digL (pparse9 s).fst.x)) (pparse9 s).fst.b)) ∧ (bcase ((checkS (RefT.mk (pparse9 s).fst.d (pparse9 s).fst.p (pparse9 s).fst.t (decI (digL (pparse9 s).fst.x)) (pparse9 s).fst.b)) == (0 : Int)) (((RefL (RefT.mk (pparse9 s).fst.d (pparse9 s).fst.p (pparse9 s).fst.t (decI (digL (pparse9 s).fst.x)) (pparse9 s).fst.b)) ∧ ((RefP (RefT.mk (pparse9 s).fst.d (pparse9 s).fst.p (pparse9 s).fst.t (decI (digL (pparse9 s).fst.x)) (pparse9 s).fst.b)) ∧ ((checkS (RefT.mk (pparse9 s).fst.d (pparse9 s).fst.p (pparse9 s).fst.t (decI (digL (pparse9 s).fst.x)) (pparse9 s).fst.b)) = (0 : Int)))) ∧ (True ∧ (K (.bool true) []))) (K (.bool false) [])))))))) ((RefP (RefT.mk r.d r.p r.t (decI (digL r.x)) r.b)) ∧ (bcase ((checkS (RefT.mk r.d r.p r.t (decI (digL r.x)) r.b)) != (0 : Int)) ((RefP (RefT.mk r.d r.p r.t (decI (digL r.x)) r.b)) ∧ (bcase (!((ptextS (RefT.mk r.d r.p r.t (decI (digL r.x)) r.b)).toList == (ByteArray.mk #[]).toList)) (K (.bool false) []) ((RefP (RefT.mk r.d r.p r.t (decI (digL r.x)) r.b)) ∧ (bcase (!((pshortS (RefT.mk r.d r.p r.t (decI (digL r.x)) r.b)).toList == (ByteArray.mk #[]).toList)) (K (.bool false) []) ((s.size < 536870912) ∧ (bcase ((pparse9 s).snd != (0 : Int)) (bcase ((pparse9 s).snd == (10 : Int)) (bcase (decide ((↑s.size : Int) ≤ (200 : Int))) (bcase (((pparse9 s).fst.d.toList == (ByteArray.mk #[]).toList) && (((pparse9 s).fst.p.toList == (ByteArray.mk #[]).toList) && (((pparse9 s).fst.t.toList == (ByteArray.mk #[]).toList) && ((eqD (pparse9 s).fst.x zerosI) && (((pparse9 s).fst.b == false) && true))))) (True ∧ (K (.bool true) [])) (K (.bool false) [])) (bcase ((pparse9 s).snd == (3 : Int)) (bcase (decide ((↑s.size : Int) > (200 : Int))) (bcase (((pparse9 s).fst.d.toList == (ByteArray.mk #[]).toList) && (((pparse9 s).fst.p.toList == (ByteArray.mk #[]).toList) && (((pparse9 s).fst.t.toList == (ByteArray.mk #[]).toList) && ((eqD (pparse9 s).fst.x zerosI) && (((pparse9 s).fst.b == false) && true))))) (True ∧ (K (.bool true) [])) (K (.bool false) [])) (K (.bool false) [])) (K (.bool false) []))) (bcase ((pparse9 s).snd == (3 : Int)) (bcase (decide ((↑s.size : Int) > (200 : Int))) (bcase (((pparse9 s).fst.d.toList == (ByteArray.mk #[]).toList) && (((pparse9 s).fst.p.toList == (ByteArray.mk #[]).toList) && (((pparse9 s).fst.t.toList == (ByteArray.mk #[]).toList) && ((eqD (pparse9 s).fst.x zerosI) && (((pparse9 s).fst.b == false) && true))))) (True ∧ (K (.bool true) [])) (K (.bool false) [])) (K (.bool false) [])) (K (.bool false) []))) ((RefP (RefT.mk (pparse9 s).fst.d (pparse9 s).fst.p (pparse9 s).fst.t (decI (digL (pparse9 s).fst.x)) (pparse9 s).fst.b)) ∧ (bcase ((checkS (RefT.mk (pparse9 s).fst.d (pparse9 s).fst.p (pparse9 s).fst.t (decI (digL (pparse9 s).fst.x)) (pparse9 s).fst.b)) == (0 : Int)) (((RefL (RefT.mk (pparse9 s).fst.d (pparse9 s).fst.p (pparse9 s).fst.t (decI (digL (pparse9 s).fst.x)) (pparse9 s).fst.b)) ∧ ((RefP (RefT.mk (pparse9 s).fst.d (pparse9 s).fst.p (pparse9 s).fst.t (decI (digL (pparse9 s).fst.x)) (pparse9 s).fst.b)) ∧ ((checkS (RefT.mk (pparse9 s).fst.d (pparse9 s).fst.p (pparse9 s).fst.t (decI (digL (pparse9 s).fst.x)) (pparse9 s).fst.b)) = (0 : Int)))) ∧ (True ∧ (K (.bool true) []))) (K (.bool false) []))))))))) ((s.size < 536870912) ∧ (bcase ((pparse9 s).snd != (0 : Int)) (bcase ((pparse9 s).snd == (10 : Int)) (bcase (decide ((↑s.size : Int) ≤ (200 : Int))) (bcase (((pparse9 s).fst.d.toList == (ByteArray.mk #[]).toList) && (((pparse9 s).fst.p.toList == (ByteArray.mk #[]).toList) && (((pparse9 s).fst.t.toList == (ByteArray.mk #[]).toList) && ((eqD (pparse9 s).fst.x zerosI) && (((pparse9 s).fst.b == false) && true))))) (True ∧ (K (.bool true) [])) (K (.bool false) [])) (bcase ((pparse9 s).snd == (3 : Int)) (bcase (decide ((↑s.size : Int) > (200 : Int))) (bcase (((pparse9 s).fst.d.toList == (ByteArray.mk #[]).toList) && (((pparse9 s).fst.p.toList == (ByteArray.mk #[]).toList) && (((pparse9 s).fst.t.toList == (ByteArray.mk #[]).toList) && ((eqD (pparse9 s).fst.x zerosI) && (((pparse9 s).fst.b == false) && true))))) (True ∧ (K (.bool true) [])) (K (.bool false) [])) (K (.bool false) [])) (K (.bool false) []))) (bcase ((pparse9 s).snd == (3 : Int)) (bcase (decide ((↑s.size : Int) > (200 : Int))) (bcase (((pparse9 s).fst.d.toList == (ByteArray.mk #[]).toList) && (((pparse9 s).fst.p.toList == (ByteArray.mk #[]).toList) && (((pparse9 s).fst.t.toList == (ByteArray.mk #[]).toList) && ((eqD (pparse9 s).fst.x zerosI) && (((pparse9 s).fst.b == false) && true))))) (True ∧ (K (.bool true) [])) (K (.bool false) [])) (K (.bool false) [])) (K (.bool false) []))) ((RefP (RefT.mk (pparse9 s).fst.d (pparse9 s).fst.p (pparse9 s).fst.t (decI (digL (pparse9 s).fst.x)) (pparse9 s).fst.b)) ∧ (bcase ((checkS (RefT.mk (pparse9 s).fst.d (pparse9 s).fst.p (pparse9 s).fst.t (decI (digL (pparse9 s).fst.x)) (pparse9 s).fst.b)) == (0 : Int)) (((RefL (RefT.mk (pparse9 s).fst.d (pparse9 s).fst.p (pparse9 s).fst.t (decI (digL (pparse9 s).fst.x)) (pparse9 s).fst.b)) ∧ ((RefP (RefT.mk (pparse9 s).fst.d (pparse9 s).fst.p (pparse9 s).fst.t (decI (digL (pparse9 s).fst.x)) (pparse9 s).fst.b)) ∧ ((checkS (RefT.mk (pparse9 s).fst.d (pparse9 s).fst.p (pparse9 s).fst.t (decI (digL (pparse9 s).fst.x)) (pparse9 s).fst.b)) = (0 : Int)))) ∧ (True ∧ (K (.bool true) []))) (K (.bool false) []))))))))))))) (by kernel_rfl) ?_
      simp only [he]
      clear h1 hr
      obtain ⟨hL, hsz⟩ := hs
      refine bcase_of (fun _ => ⟨trivial, hK⟩) (fun a => bcase_of (fun _ => ⟨trivial, hK⟩) (fun b => bcase_of (fun _ => ⟨trivial, hK⟩) (fun c => bcase_of (fun _ => ⟨trivial, hK⟩) (fun d => ?_))))
      have a := of_decide_eq_false a
      have b := of_decide_eq_false b
      have c := of_decide_eq_false c
      have d := of_decide_eq_false d
      have hP := (hL.q (by omega) (by omega) (by omega)).toP
      have hz : s.size < 536870912 := by omega
      have q := pparse9_q s
      have qP := q.toP
      have qL : RefL (pparse9 s).1 := ⟨q.x, q.n⟩
      have hq : RefT.mk (pparse9 s).1.d (pparse9 s).1.p (pparse9 s).1.t (decI (digL (pparse9 s).1.x)) (pparse9 s).1.b = (pparse9 s).1 := by rw [decI_digL q.n]
      simp only [hq]
      rcases check_two r with h0 | h0
      · simp only [h0]
        refine ⟨hP, bcase_t rfl ⟨⟨hL, hP, trivial⟩, hP, bcase_f rfl ⟨hz, ?_⟩⟩⟩
        rcases parse_cases s with ⟨e1, e2⟩ | ⟨e1, e2⟩ | ⟨e1, e2⟩
        · simp only [e1, e2]
          exact bcase_f rfl ⟨qP, bcase_t rfl ⟨⟨qL, qP, trivial⟩, trivial, hK⟩⟩
        · simp only [e1]
          exact bcase_t rfl (bcase_t rfl (bcase_t (decide_eq_true (by omega)) (bcase_t zeroR_eqs ⟨trivial, hK⟩)))
        · simp only [e1]
          exact bcase_t rfl (bcase_f rfl (bcase_t rfl (bcase_t (decide_eq_true (by omega)) (bcase_t zeroR_eqs ⟨trivial, hK⟩))))
      · obtain ⟨n1, n2⟩ := none_law (r := r) (by omega)
        have m1 : (!((ptextS r).toList == (ByteArray.mk #[]).toList)) = false := by show (!(isS (ptextS r) [])) = false; rw [n1]; rfl
        have m2 : (!((pshortS r).toList == (ByteArray.mk #[]).toList)) = false := by show (!(isS (pshortS r) [])) = false; rw [n2]; rfl
        simp only [h0]
        refine ⟨hP, bcase_f rfl ⟨hP, bcase_t rfl ⟨hP, bcase_f m1 ⟨hP, bcase_f m2 ⟨hz, ?_⟩⟩⟩⟩⟩
        rcases parse_cases s with ⟨e1, e2⟩ | ⟨e1, e2⟩ | ⟨e1, e2⟩
        · simp only [e1, e2]
          exact bcase_f rfl ⟨qP, bcase_t rfl ⟨⟨qL, qP, trivial⟩, trivial, hK⟩⟩
        · simp only [e1]
          exact bcase_t rfl (bcase_t rfl (bcase_t (decide_eq_true (by omega)) (bcase_t zeroR_eqs ⟨trivial, hK⟩)))
        · simp only [e1]
          exact bcase_t rfl (bcase_f rfl (bcase_t rfl (bcase_t (decide_eq_true (by omega)) (bcase_t zeroR_eqs ⟨trivial, hK⟩))))
    · cases h
  · cases h
end Go.Proofs.YtofcjkbgieenlaaDoor.PM

namespace Go.Proofs.YtofcjkbgieenlaaDoor.PM
open Go Go.Proofs Go.RowKit
set_option maxRecDepth 100000
set_option linter.unusedVariables false
set_option linter.unusedSimpArgs false

def partsLp : LSpec
  | [(2, .pointer (some ⟨0, 0, some 0⟩)), (6, .pointer (some ⟨1, 0, some 0⟩)), (8, .pointer (some ⟨2, 0, some 0⟩)), (11, .pointer (some ⟨3, 0, some 0⟩)), (12, .int .i64 i)], H, K =>
    ∃ (nn : List Int) (pl : List ByteArray) (x : List Int) (l : List ByteArray), (i = 0 ∧ (l.length = 4 ∧ ∀ s ∈ l, s.size < 1000) ∧ H = [.row (arrC .u8) 6 [nn] .own, .row strsC 12 [pl] .own, .row raw 36 [refL (ByteArray.mk #[]) (ByteArray.mk #[]) (ByteArray.mk #[]) x true] .own, .row strsC 4 [l] .own]) ∧
      K (.exit 0) [(2, .pointer (some ⟨0, 0, some 0⟩)), (6, .pointer (some ⟨1, 0, some 0⟩)), (8, .pointer (some ⟨2, 0, some 0⟩))] [.row (arrC .u8) 6 [nn] .own, .row strsC 12 [pl] .own, .row raw 36 [refL (ByteArray.mk #[]) (ByteArray.mk #[]) (ByteArray.mk #[]) x true] .own, .row strsC 4 [l] .own]
  | _, _, _ => False
attribute [local irreducible] checkS ptextS pshortS pparse9 rparse12 rcheckS rtextS rshortS
theorem parts_rounds (nn : List Int) (pl : List ByteArray) (x : List Int) (l : List ByteArray) (hl : l.length = 4) (hp : ∀ s ∈ l, s.size < 1000) (K : Kont)
    (hK : K (.exit 0) [(2, .pointer (some ⟨0, 0, some 0⟩)), (6, .pointer (some ⟨1, 0, some 0⟩)), (8, .pointer (some ⟨2, 0, some 0⟩))] [.row (arrC .u8) 6 [nn] .own, .row strsC 12 [pl] .own, .row raw 36 [refL (ByteArray.mk #[]) (ByteArray.mk #[]) (ByteArray.mk #[]) x true] .own, .row strsC 4 [l] .own]) : ∀ (d i : Nat), i + d = 4 →
    rnds Tryd.prog (callOf [(9, pureS pparse9G), (10, pureS rparse12G), (11, pureS (refPG fun r => .string (ptextS r))), (12, pureS (refG fun r => .string (rtextS r))), (13, pureS (refPG fun r => .string (pshortS r))), (14, pureS (refG fun r => .string (rshortS r)))]) (hints 5) noTab (d + 1) (lp Tryd.f5 9)
      [(2, .pointer (some ⟨0, 0, some 0⟩)), (6, .pointer (some ⟨1, 0, some 0⟩)), (8, .pointer (some ⟨2, 0, some 0⟩)), (11, .pointer (some ⟨3, 0, some 0⟩)), (12, .int .i64 i)]
      [.row (arrC .u8) 6 [nn] .own, .row strsC 12 [pl] .own, .row raw 36 [refL (ByteArray.mk #[]) (ByteArray.mk #[]) (ByteArray.mk #[]) x true] .own, .row strsC 4 [l] .own] K
  | 0, i, hi => by
    refine to (R := bcase (decide ((↑i : Int) < (4 : Int))) (need (decide ((↑i : Int) < (↑4 : Int))) (need (((↑i : Int).toNat + 1).ble 4) (((l.getD (↑i : Int).toNat (ByteArray.mk #[])).size < 536870912) ∧ (need (decide ((↑i : Int) < (↑4 : Int))) (need (((↑i : Int).toNat + 1).ble 4) (((l.getD (↑i : Int).toNat (ByteArray.mk #[])).size < 536870912) ∧ (bcase (!(((pparse9 (l.getD (↑i : Int).toNat (ByteArray.mk #[]))).fst.d.toList == (rparse12 (l.getD (↑i : Int).toNat (ByteArray.mk #[]))).fst.d.toList) && (((pparse9 (l.getD (↑i : Int).toNat (ByteArray.mk #[]))).fst.p.toList == (rparse12 (l.getD (↑i : Int).toNat (ByteArray.mk #[]))).fst.p.toList) && (((pparse9 (l.getD (↑i : Int).toNat (ByteArray.mk #[]))).fst.t.toList == (rparse12 (l.getD (↑i : Int).toNat (ByteArray.mk #[]))).fst.t.toList) && ((eqD (pparse9 (l.getD (↑i : Int).toNat (ByteArray.mk #[]))).fst.x (rparse12 (l.getD (↑i : Int).toNat (ByteArray.mk #[]))).fst.x) && (((pparse9 (l.getD (↑i : Int).toNat (ByteArray.mk #[]))).fst.b == (rparse12 (l.getD (↑i : Int).toNat (ByteArray.mk #[]))).fst.b) && true)))))) (K .ret [(4, (.bool false))] [(VB.row (arrC .u8) 6 [nn] .own), (VB.row strsC 12 [pl] .own), (VB.row raw 36 [(refL (ByteArray.mk #[]) (ByteArray.mk #[]) (ByteArray.mk #[]) x true)] .own), (VB.row strsC 4 [l] .own), (VB.row raw 36 [(refL (pparse9 (l.getD (↑i : Int).toNat (ByteArray.mk #[]))).fst.d (pparse9 (l.getD (↑i : Int).toNat (ByteArray.mk #[]))).fst.p (pparse9 (l.getD (↑i : Int).toNat (ByteArray.mk #[]))).fst.t (pparse9 (l.getD (↑i : Int).toNat (ByteArray.mk #[]))).fst.x (pparse9 (l.getD (↑i : Int).toNat (ByteArray.mk #[]))).fst.b)] .own), (VB.row raw 36 [(refL (rparse12 (l.getD (↑i : Int).toNat (ByteArray.mk #[]))).fst.d (rparse12 (l.getD (↑i : Int).toNat (ByteArray.mk #[]))).fst.p (rparse12 (l.getD (↑i : Int).toNat (ByteArray.mk #[]))).fst.t (rparse12 (l.getD (↑i : Int).toNat (ByteArray.mk #[]))).fst.x (rparse12 (l.getD (↑i : Int).toNat (ByteArray.mk #[]))).fst.b)] .own)]) (bcase ((pparse9 (l.getD (↑i : Int).toNat (ByteArray.mk #[]))).snd != (rparse12 (l.getD (↑i : Int).toNat (ByteArray.mk #[]))).snd) (K .ret [(4, (.bool false))] [(VB.row (arrC .u8) 6 [nn] .own), (VB.row strsC 12 [pl] .own), (VB.row raw 36 [(refL (ByteArray.mk #[]) (ByteArray.mk #[]) (ByteArray.mk #[]) x true)] .own), (VB.row strsC 4 [l] .own), (VB.row raw 36 [(refL (pparse9 (l.getD (↑i : Int).toNat (ByteArray.mk #[]))).fst.d (pparse9 (l.getD (↑i : Int).toNat (ByteArray.mk #[]))).fst.p (pparse9 (l.getD (↑i : Int).toNat (ByteArray.mk #[]))).fst.t (pparse9 (l.getD (↑i : Int).toNat (ByteArray.mk #[]))).fst.x (pparse9 (l.getD (↑i : Int).toNat (ByteArray.mk #[]))).fst.b)] .own), (VB.row raw 36 [(refL (rparse12 (l.getD (↑i : Int).toNat (ByteArray.mk #[]))).fst.d (rparse12 (l.getD (↑i : Int).toNat (ByteArray.mk #[]))).fst.p (rparse12 (l.getD (↑i : Int).toNat (ByteArray.mk #[]))).fst.t (rparse12 (l.getD (↑i : Int).toNat (ByteArray.mk #[]))).fst.x (rparse12 (l.getD (↑i : Int).toNat (ByteArray.mk #[]))).fst.b)] .own)]) ((RefP (RefT.mk (pparse9 (l.getD (↑i : Int).toNat (ByteArray.mk #[]))).fst.d (pparse9 (l.getD (↑i : Int).toNat (ByteArray.mk #[]))).fst.p (pparse9 (l.getD (↑i : Int).toNat (ByteArray.mk #[]))).fst.t (decI (digL (pparse9 (l.getD (↑i : Int).toNat (ByteArray.mk #[]))).fst.x)) (pparse9 (l.getD (↑i : Int).toNat (ByteArray.mk #[]))).fst.b)) ∧ ((RefOk (RefT.mk (rparse12 (l.getD (↑i : Int).toNat (ByteArray.mk #[]))).fst.d (rparse12 (l.getD (↑i : Int).toNat (ByteArray.mk #[]))).fst.p (rparse12 (l.getD (↑i : Int).toNat (ByteArray.mk #[]))).fst.t (decI (digL (rparse12 (l.getD (↑i : Int).toNat (ByteArray.mk #[]))).fst.x)) (rparse12 (l.getD (↑i : Int).toNat (ByteArray.mk #[]))).fst.b)) ∧ (bcase (!((ptextS (RefT.mk (pparse9 (l.getD (↑i : Int).toNat (ByteArray.mk #[]))).fst.d (pparse9 (l.getD (↑i : Int).toNat (ByteArray.mk #[]))).fst.p (pparse9 (l.getD (↑i : Int).toNat (ByteArray.mk #[]))).fst.t (decI (digL (pparse9 (l.getD (↑i : Int).toNat (ByteArray.mk #[]))).fst.x)) (pparse9 (l.getD (↑i : Int).toNat (ByteArray.mk #[]))).fst.b)).toList == (rtextS (RefT.mk (rparse12 (l.getD (↑i : Int).toNat (ByteArray.mk #[]))).fst.d (rparse12 (l.getD (↑i : Int).toNat (ByteArray.mk #[]))).fst.p (rparse12 (l.getD (↑i : Int).toNat (ByteArray.mk #[]))).fst.t (decI (digL (rparse12 (l.getD (↑i : Int).toNat (ByteArray.mk #[]))).fst.x)) (rparse12 (l.getD (↑i : Int).toNat (ByteArray.mk #[]))).fst.b)).toList)) (K .ret [(4, (.bool false))] [(VB.row (arrC .u8) 6 [nn] .own), (VB.row strsC 12 [pl] .own), (VB.row raw 36 [(refL (ByteArray.mk #[]) (ByteArray.mk #[]) (ByteArray.mk #[]) x true)] .own), (VB.row strsC 4 [l] .own), (VB.row raw 36 [(refL (pparse9 (l.getD (↑i : Int).toNat (ByteArray.mk #[]))).fst.d (pparse9 (l.getD (↑i : Int).toNat (ByteArray.mk #[]))).fst.p (pparse9 (l.getD (↑i : Int).toNat (ByteArray.mk #[]))).fst.t (pparse9 (l.getD (↑i : Int).toNat (ByteArray.mk #[]))).fst.x (pparse9 (l.getD (↑i : Int).toNat (ByteArray.mk #[]))).fst.b)] .own), (VB.row raw 36 [(refL (rparse12 (l.getD (↑i : Int).toNat (ByteArray.mk #[]))).fst.d (rparse12 (l.getD (↑i : Int).toNat (ByteArray.mk #[]))).fst.p (rparse12 (l.getD (↑i : Int).toNat (ByteArray.mk #[]))).fst.t (rparse12 (l.getD (↑i : Int).toNat (ByteArray.mk #[]))).fst.x (rparse12 (l.getD (↑i : Int).toNat (ByteArray.mk #[]))).fst.b)] .own)]) ((RefP (RefT.mk (pparse9 (l.getD (↑i : Int).toNat (ByteArray.mk #[]))).fst.d (pparse9 (l.getD (↑i : Int).toNat (ByteArray.mk #[]))).fst.p (pparse9 (l.getD (↑i : Int).toNat (ByteArray.mk #[]))).fst.t (decI (digL (pparse9 (l.getD (↑i : Int).toNat (ByteArray.mk #[]))).fst.x)) (pparse9 (l.getD (↑i : Int).toNat (ByteArray.mk #[]))).fst.b)) ∧ ((RefOk (RefT.mk (rparse12 (l.getD (↑i : Int).toNat (ByteArray.mk #[]))).fst.d (rparse12 (l.getD (↑i : Int).toNat (ByteArray.mk #[]))).fst.p (rparse12 (l.getD (↑i : Int).toNat (ByteArray.mk #[]))).fst.t (decI (digL (rparse12 (l.getD (↑i : Int).toNat (ByteArray.mk #[]))).fst.x)) (rparse12 (l.getD (↑i : Int).toNat (ByteArray.mk #[]))).fst.b)) ∧ (bcase (!((pshortS (RefT.mk (pparse9 (l.getD (↑i : Int).toNat (ByteArray.mk #[]))).fst.d (pparse9 (l.getD (↑i : Int).toNat (ByteArray.mk #[]))).fst.p (pparse9 (l.getD (↑i : Int).toNat (ByteArray.mk #[]))).fst.t (decI (digL (pparse9 (l.getD (↑i : Int).toNat (ByteArray.mk #[]))).fst.x)) (pparse9 (l.getD (↑i : Int).toNat (ByteArray.mk #[]))).fst.b)).toList == (rshortS (RefT.mk (rparse12 (l.getD (↑i : Int).toNat (ByteArray.mk #[]))).fst.d (rparse12 (l.getD (↑i : Int).toNat (ByteArray.mk #[]))).fst.p (rparse12 (l.getD (↑i : Int).toNat (ByteArray.mk #[]))).fst.t (decI (digL (rparse12 (l.getD (↑i : Int).toNat (ByteArray.mk #[]))).fst.x)) (rparse12 (l.getD (↑i : Int).toNat (ByteArray.mk #[]))).fst.b)).toList)) (K .ret [(4, (.bool false))] [(VB.row (arrC .u8) 6 [nn] .own), (VB.row strsC 12 [pl] .own), (VB.row raw 36 [(refL (ByteArray.mk #[]) (ByteArray.mk #[]) (ByteArray.mk #[]) x true)] .own), (VB.row strsC 4 [l] .own), (VB.row raw 36 [(refL (pparse9 (l.getD (↑i : Int).toNat (ByteArray.mk #[]))).fst.d (pparse9 (l.getD (↑i : Int).toNat (ByteArray.mk #[]))).fst.p (pparse9 (l.getD (↑i : Int).toNat (ByteArray.mk #[]))).fst.t (pparse9 (l.getD (↑i : Int).toNat (ByteArray.mk #[]))).fst.x (pparse9 (l.getD (↑i : Int).toNat (ByteArray.mk #[]))).fst.b)] .own), (VB.row raw 36 [(refL (rparse12 (l.getD (↑i : Int).toNat (ByteArray.mk #[]))).fst.d (rparse12 (l.getD (↑i : Int).toNat (ByteArray.mk #[]))).fst.p (rparse12 (l.getD (↑i : Int).toNat (ByteArray.mk #[]))).fst.t (rparse12 (l.getD (↑i : Int).toNat (ByteArray.mk #[]))).fst.x (rparse12 (l.getD (↑i : Int).toNat (ByteArray.mk #[]))).fst.b)] .own)]) (rnds Tryd.prog (callOf [(9, (pureS pparse9G)), (10, (pureS rparse12G)), (11, (pureS (refPG fun (r : RefT) => (.string (ptextS r))))), (12, (pureS (refG fun (r : RefT) => (.string (rtextS r))))), (13, (pureS (refPG fun (r : RefT) => (.string (pshortS r))))), (14, (pureS (refG fun (r : RefT) => (.string (rshortS r)))))]) (hints 5) noTab (nat_lit 0) (lp Tryd.f5 9) [(2, (.pointer (some (Addr.mk 0 0 (some 0))))), (6, (.pointer (some (Addr.mk 1 0 (some 0))))), (8, (.pointer (some (Addr.mk 2 0 (some 0))))), (11, (.pointer (some (Addr.mk 3 0 (some 0))))), (12, (.int .i64 (IntKind.i64.wrap ((↑i : Int) + (1 : Int)))))] [(VB.row (arrC .u8) 6 [nn] .own), (VB.row strsC 12 [pl] .own), (VB.row raw 36 [(refL (ByteArray.mk #[]) (ByteArray.mk #[]) (ByteArray.mk #[]) x true)] .own), (VB.row strsC 4 [l] .own)] K))))))))))))))) (K (.exit 0) [(2, (.pointer (some (Addr.mk 0 0 (some 0))))), (6, (.pointer (some (Addr.mk 1 0 (some 0))))), (8, (.pointer (some (Addr.mk 2 0 (some 0)))))] [(VB.row (arrC .u8) 6 [nn] .own), (VB.row strsC 12 [pl] .own), (VB.row raw 36 [(refL (ByteArray.mk #[]) (ByteArray.mk #[]) (ByteArray.mk #[]) x true)] .own), (VB.row strsC 4 [l] .own)])) (by kernel_rfl) ?_
    exact bcase_f (by simp; omega) hK
  | d + 1, i, hi => by
    have w0 : IntKind.i64.wrap ((i : Int) + 1) = ((i + 1 : Nat) : Int) := wrap_id (by omega) (by omega)
    have ih := parts_rounds nn pl x l hl hp K hK d (i + 1) (by omega)
    obtain ⟨n, hn⟩ : ∃ n, n = d + 1 := ⟨_, rfl⟩; rw [← hn] at ih ⊢
    refine to (R := bcase (decide ((↑i : Int) < (4 : Int))) (need (decide ((↑i : Int) < (↑4 : Int))) (need (((↑i : Int).toNat + 1).ble 4) (((l.getD (↑i : Int).toNat (ByteArray.mk #[])).size < 536870912) ∧ (need (decide ((↑i : Int) < (↑4 : Int))) (need (((↑i : Int).toNat + 1).ble 4) (((l.getD (↑i : Int).toNat (ByteArray.mk #[])).size < 536870912) ∧ (bcase (!(((pparse9 (l.getD (↑i : Int).toNat (ByteArray.mk #[]))).fst.d.toList == (rparse12 (l.getD (↑i : Int).toNat (ByteArray.mk #[]))).fst.d.toList) && (((pparse9 (l.getD (↑i : Int).toNat (ByteArray.mk #[]))).fst.p.toList == (rparse12 (l.getD (↑i : Int).toNat (ByteArray.mk #[]))).fst.p.toList) && (((pparse9 (l.getD (↑i : Int).toNat (ByteArray.mk #[]))).fst.t.toList == (rparse12 (l.getD (↑i : Int).toNat (ByteArray.mk #[]))).fst.t.toList) && ((eqD (pparse9 (l.getD (↑i : Int).toNat (ByteArray.mk #[]))).fst.x (rparse12 (l.getD (↑i : Int).toNat (ByteArray.mk #[]))).fst.x) && (((pparse9 (l.getD (↑i : Int).toNat (ByteArray.mk #[]))).fst.b == (rparse12 (l.getD (↑i : Int).toNat (ByteArray.mk #[]))).fst.b) && true)))))) (K .ret [(4, (.bool false))] [(VB.row (arrC .u8) 6 [nn] .own), (VB.row strsC 12 [pl] .own), (VB.row raw 36 [(refL (ByteArray.mk #[]) (ByteArray.mk #[]) (ByteArray.mk #[]) x true)] .own), (VB.row strsC 4 [l] .own), (VB.row raw 36 [(refL (pparse9 (l.getD (↑i : Int).toNat (ByteArray.mk #[]))).fst.d (pparse9 (l.getD (↑i : Int).toNat (ByteArray.mk #[]))).fst.p (pparse9 (l.getD (↑i : Int).toNat (ByteArray.mk #[]))).fst.t (pparse9 (l.getD (↑i : Int).toNat (ByteArray.mk #[]))).fst.x (pparse9 (l.getD (↑i : Int).toNat (ByteArray.mk #[]))).fst.b)] .own), (VB.row raw 36 [(refL (rparse12 (l.getD (↑i : Int).toNat (ByteArray.mk #[]))).fst.d (rparse12 (l.getD (↑i : Int).toNat (ByteArray.mk #[]))).fst.p (rparse12 (l.getD (↑i : Int).toNat (ByteArray.mk #[]))).fst.t (rparse12 (l.getD (↑i : Int).toNat (ByteArray.mk #[]))).fst.x (rparse12 (l.getD (↑i : Int).toNat (ByteArray.mk #[]))).fst.b)] .own)]) (bcase ((pparse9 (l.getD (↑i : Int).toNat (ByteArray.mk #[]))).snd != (rparse12 (l.getD (↑i : Int).toNat (ByteArray.mk #[]))).snd) (K .ret [(4, (.bool false))] [(VB.row (arrC .u8) 6 [nn] .own), (VB.row strsC 12 [pl] .own), (VB.row raw 36 [(refL (ByteArray.mk #[]) (ByteArray.mk #[]) (ByteArray.mk #[]) x true)] .own), (VB.row strsC 4 [l] .own), (VB.row raw 36 [(refL (pparse9 (l.getD (↑i : Int).toNat (ByteArray.mk #[]))).fst.d (pparse9 (l.getD (↑i : Int).toNat (ByteArray.mk #[]))).fst.p (pparse9 (l.getD (↑i : Int).toNat (ByteArray.mk #[]))).fst.t (pparse9 (l.getD (↑i : Int).toNat (ByteArray.mk #[]))).fst.x (pparse9 (l.getD (↑i : Int).toNat (ByteArray.mk #[]))).fst.b)] .own), (VB.row raw 36 [(refL (rparse12 (l.getD (↑i : Int).toNat (ByteArray.mk #[]))).fst.d (rparse12 (l.getD (↑i : Int).toNat (ByteArray.mk #[]))).fst.p (rparse12 (l.getD (↑i : Int).toNat (ByteArray.mk #[]))).fst.t (rparse12 (l.getD (↑i : Int).toNat (ByteArray.mk #[]))).fst.x (rparse12 (l.getD (↑i : Int).toNat (ByteArray.mk #[]))).fst.b)] .own)]) ((RefP (RefT.mk (pparse9 (l.getD (↑i : Int).toNat (ByteArray.mk #[]))).fst.d (pparse9 (l.getD (↑i : Int).toNat (ByteArray.mk #[]))).fst.p (pparse9 (l.getD (↑i : Int).toNat (ByteArray.mk #[]))).fst.t (decI (digL (pparse9 (l.getD (↑i : Int).toNat (ByteArray.mk #[]))).fst.x)) (pparse9 (l.getD (↑i : Int).toNat (ByteArray.mk #[]))).fst.b)) ∧ ((RefOk (RefT.mk (rparse12 (l.getD (↑i : Int).toNat (ByteArray.mk #[]))).fst.d (rparse12 (l.getD (↑i : Int).toNat (ByteArray.mk #[]))).fst.p (rparse12 (l.getD (↑i : Int).toNat (ByteArray.mk #[]))).fst.t (decI (digL (rparse12 (l.getD (↑i : Int).toNat (ByteArray.mk #[]))).fst.x)) (rparse12 (l.getD (↑i : Int).toNat (ByteArray.mk #[]))).fst.b)) ∧ (bcase (!((ptextS (RefT.mk (pparse9 (l.getD (↑i : Int).toNat (ByteArray.mk #[]))).fst.d (pparse9 (l.getD (↑i : Int).toNat (ByteArray.mk #[]))).fst.p (pparse9 (l.getD (↑i : Int).toNat (ByteArray.mk #[]))).fst.t (decI (digL (pparse9 (l.getD (↑i : Int).toNat (ByteArray.mk #[]))).fst.x)) (pparse9 (l.getD (↑i : Int).toNat (ByteArray.mk #[]))).fst.b)).toList == (rtextS (RefT.mk (rparse12 (l.getD (↑i : Int).toNat (ByteArray.mk #[]))).fst.d (rparse12 (l.getD (↑i : Int).toNat (ByteArray.mk #[]))).fst.p (rparse12 (l.getD (↑i : Int).toNat (ByteArray.mk #[]))).fst.t (decI (digL (rparse12 (l.getD (↑i : Int).toNat (ByteArray.mk #[]))).fst.x)) (rparse12 (l.getD (↑i : Int).toNat (ByteArray.mk #[]))).fst.b)).toList)) (K .ret [(4, (.bool false))] [(VB.row (arrC .u8) 6 [nn] .own), (VB.row strsC 12 [pl] .own), (VB.row raw 36 [(refL (ByteArray.mk #[]) (ByteArray.mk #[]) (ByteArray.mk #[]) x true)] .own), (VB.row strsC 4 [l] .own), (VB.row raw 36 [(refL (pparse9 (l.getD (↑i : Int).toNat (ByteArray.mk #[]))).fst.d (pparse9 (l.getD (↑i : Int).toNat (ByteArray.mk #[]))).fst.p (pparse9 (l.getD (↑i : Int).toNat (ByteArray.mk #[]))).fst.t (pparse9 (l.getD (↑i : Int).toNat (ByteArray.mk #[]))).fst.x (pparse9 (l.getD (↑i : Int).toNat (ByteArray.mk #[]))).fst.b)] .own), (VB.row raw 36 [(refL (rparse12 (l.getD (↑i : Int).toNat (ByteArray.mk #[]))).fst.d (rparse12 (l.getD (↑i : Int).toNat (ByteArray.mk #[]))).fst.p (rparse12 (l.getD (↑i : Int).toNat (ByteArray.mk #[]))).fst.t (rparse12 (l.getD (↑i : Int).toNat (ByteArray.mk #[]))).fst.x (rparse12 (l.getD (↑i : Int).toNat (ByteArray.mk #[]))).fst.b)] .own)]) ((RefP (RefT.mk (pparse9 (l.getD (↑i : Int).toNat (ByteArray.mk #[]))).fst.d (pparse9 (l.getD (↑i : Int).toNat (ByteArray.mk #[]))).fst.p (pparse9 (l.getD (↑i : Int).toNat (ByteArray.mk #[]))).fst.t (decI (digL (pparse9 (l.getD (↑i : Int).toNat (ByteArray.mk #[]))).fst.x)) (pparse9 (l.getD (↑i : Int).toNat (ByteArray.mk #[]))).fst.b)) ∧ ((RefOk (RefT.mk (rparse12 (l.getD (↑i : Int).toNat (ByteArray.mk #[]))).fst.d (rparse12 (l.getD (↑i : Int).toNat (ByteArray.mk #[]))).fst.p (rparse12 (l.getD (↑i : Int).toNat (ByteArray.mk #[]))).fst.t (decI (digL (rparse12 (l.getD (↑i : Int).toNat (ByteArray.mk #[]))).fst.x)) (rparse12 (l.getD (↑i : Int).toNat (ByteArray.mk #[]))).fst.b)) ∧ (bcase (!((pshortS (RefT.mk (pparse9 (l.getD (↑i : Int).toNat (ByteArray.mk #[]))).fst.d (pparse9 (l.getD (↑i : Int).toNat (ByteArray.mk #[]))).fst.p (pparse9 (l.getD (↑i : Int).toNat (ByteArray.mk #[]))).fst.t (decI (digL (pparse9 (l.getD (↑i : Int).toNat (ByteArray.mk #[]))).fst.x)) (pparse9 (l.getD (↑i : Int).toNat (ByteArray.mk #[]))).fst.b)).toList == (rshortS (RefT.mk (rparse12 (l.getD (↑i : Int).toNat (ByteArray.mk #[]))).fst.d (rparse12 (l.getD (↑i : Int).toNat (ByteArray.mk #[]))).fst.p (rparse12 (l.getD (↑i : Int).toNat (ByteArray.mk #[]))).fst.t (decI (digL (rparse12 (l.getD (↑i : Int).toNat (ByteArray.mk #[]))).fst.x)) (rparse12 (l.getD (↑i : Int).toNat (ByteArray.mk #[]))).fst.b)).toList)) (K .ret [(4, (.bool false))] [(VB.row (arrC .u8) 6 [nn] .own), (VB.row strsC 12 [pl] .own), (VB.row raw 36 [(refL (ByteArray.mk #[]) (ByteArray.mk #[]) (ByteArray.mk #[]) x true)] .own), (VB.row strsC 4 [l] .own), (VB.row raw 36 [(refL (pparse9 (l.getD (↑i : Int).toNat (ByteArray.mk #[]))).fst.d (pparse9 (l.getD (↑i : Int).toNat (ByteArray.mk #[]))).fst.p (pparse9 (l.getD (↑i : Int).toNat (ByteArray.mk #[]))).fst.t (pparse9 (l.getD (↑i : Int).toNat (ByteArray.mk #[]))).fst.x (pparse9 (l.getD (↑i : Int).toNat (ByteArray.mk #[]))).fst.b)] .own), (VB.row raw 36 [(refL (rparse12 (l.getD (↑i : Int).toNat (ByteArray.mk #[]))).fst.d (rparse12 (l.getD (↑i : Int).toNat (ByteArray.mk #[]))).fst.p (rparse12 (l.getD (↑i : Int).toNat (ByteArray.mk #[]))).fst.t (rparse12 (l.getD (↑i : Int).toNat (ByteArray.mk #[]))).fst.x (rparse12 (l.getD (↑i : Int).toNat (ByteArray.mk #[]))).fst.b)] .own)]) (rnds Tryd.prog (callOf [(9, (pureS pparse9G)), (10, (pureS rparse12G)), (11, (pureS (refPG fun (r : RefT) => (.string (ptextS r))))), (12, (pureS (refG fun (r : RefT) => (.string (rtextS r))))), (13, (pureS (refPG fun (r : RefT) => (.string (pshortS r))))), (14, (pureS (refG fun (r : RefT) => (.string (rshortS r)))))]) (hints 5) noTab n (lp Tryd.f5 9) [(2, (.pointer (some (Addr.mk 0 0 (some 0))))), (6, (.pointer (some (Addr.mk 1 0 (some 0))))), (8, (.pointer (some (Addr.mk 2 0 (some 0))))), (11, (.pointer (some (Addr.mk 3 0 (some 0))))), (12, (.int .i64 (IntKind.i64.wrap ((↑i : Int) + (1 : Int)))))] [(VB.row (arrC .u8) 6 [nn] .own), (VB.row strsC 12 [pl] .own), (VB.row raw 36 [(refL (ByteArray.mk #[]) (ByteArray.mk #[]) (ByteArray.mk #[]) x true)] .own), (VB.row strsC 4 [l] .own)] K))))))))))))))) (K (.exit 0) [(2, (.pointer (some (Addr.mk 0 0 (some 0))))), (6, (.pointer (some (Addr.mk 1 0 (some 0))))), (8, (.pointer (some (Addr.mk 2 0 (some 0)))))] [(VB.row (arrC .u8) 6 [nn] .own), (VB.row strsC 12 [pl] .own), (VB.row raw 36 [(refL (ByteArray.mk #[]) (ByteArray.mk #[]) (ByteArray.mk #[]) x true)] .own), (VB.row strsC 4 [l] .own)])) (by kernel_rfl) ?_
    have hi5 : i < l.length := by omega
    have hz := hp (l.getD i (ByteArray.mk #[])) (by rw [List.getD_eq_getElem?_getD, List.getElem?_eq_getElem hi5]; exact List.getElem_mem hi5)
    simp only [Int.toNat_natCast]
    generalize l.getD i (ByteArray.mk #[]) = s at hz ⊢
    have e := parse_law s
    obtain ⟨e1, e2, e3⟩ := same (pparse9 s).1
    have q := pparse9_q s
    have p := q.toP
    have ok := p.ok
    have he : RefT.mk (pparse9 s).1.d (pparse9 s).1.p (pparse9 s).1.t (decI (digL (pparse9 s).1.x)) (pparse9 s).1.b = (pparse9 s).1 := by rw [decI_digL q.n]
    simp only [← e, he, e2, e3, w0]
    have hc : (((pparse9 s).1.d.toList == (pparse9 s).1.d.toList) && (((pparse9 s).1.p.toList == (pparse9 s).1.p.toList) && (((pparse9 s).1.t.toList == (pparse9 s).1.t.toList) && ((eqD (pparse9 s).1.x (pparse9 s).1.x) && (((pparse9 s).1.b == (pparse9 s).1.b) && true))))) = true := by
      rw [eqs, eqs, eqs, eqD_self, beq_self_eq_true]
      rfl
    have h4 : i < 4 := by omega
    have h4' : i + 1 ≤ 4 := by omega
    have d4 : decide ((i : Int) < 4) = true := decide_eq_true (by omega)
    simp only [eqs, eqD_self, beq_self_eq_true, Bool.and_true, bne_self_eq_false]
    exact bcase_t d4 (need_of (decide_eq_true (by omega)) (need_of (Nat.ble_eq_true_of_le h4') ⟨by omega, need_of (decide_eq_true (by omega)) (need_of (Nat.ble_eq_true_of_le h4') ⟨by omega, bcase_f rfl (bcase_f rfl ⟨p, ok, bcase_f rfl ⟨p, ok, bcase_f rfl ih⟩⟩)⟩)⟩))
theorem partsLp_ok : CodeOk Tryd.prog Tryd.f5.ntmps (.loop (lp Tryd.f5 9)) partsLp := by
  refine loop_ok (call := callOf [(9, pureS pparse9G), (10, pureS rparse12G), (11, pureS (refPG fun r => .string (ptextS r))), (12, pureS (refG fun r => .string (rtextS r))), (13, pureS (refPG fun r => .string (pshortS r))), (14, pureS (refG fun r => .string (rshortS r)))]) (hint := hints 5) (tb := noTab) hm (callOf_cons pparse9_ok.spec (callOf_cons rparse12_ok.spec (callOf_cons pText_ok.spec (callOf_cons rtext_ok.spec (callOf_cons short_ok.spec (callOf_cons rshort_ok.spec callOf_nil)))))) (by kernel_rfl) (by repeat' first | exact trivial | constructor |  (intro _ h; cases h)) fun fr H K h => ?_
  unfold partsLp at h
  split at h
  · obtain ⟨nn, pl, x, l, ⟨rfl, ⟨hl, hp⟩, rfl⟩, hK⟩ := h
    exact ⟨_, parts_rounds nn pl x l hl hp K hK 4 0 rfl⟩
  · exact h.elim
def partsJ : LSpec
  | [(8, .pointer (some ⟨0, 0, some 0⟩))], H, K => ∃ r : RefT, (H = [.row raw 36 [refL r.d r.p r.t r.x r.b] .own] ∧ RefP r ∧ RefOk r) ∧ K .ret [(4, .bool true)] [.row raw 36 [refL r.d r.p r.t r.x r.b] .own]
  | _, _, _ => False
theorem partsJ_ok : CodeOk Tryd.prog Tryd.f5.ntmps (jn Tryd.f5 18) partsJ := by
  refine join_ok (call := callOf [(8, pureS namedG), (13, pureS (refPG fun r => .string (pshortS r))), (14, pureS (refG fun r => .string (rshortS r))), (15, pureS (refPG fun r => .int .i64 (checkS r))), (16, pureS rcheckG)]) (hint := hints 5) (tb := noTab) hm (callOf_cons named_ok.spec (callOf_cons short_ok.spec (callOf_cons rshort_ok.spec (callOf_cons check_ok.spec (callOf_cons rcheck_ok.spec callOf_nil))))) (by kernel_rfl) (by repeat' first | exact trivial | constructor |  (intro _ h; cases h)) fun fr H K h => ?_
  unfold partsJ at h
  split at h
  · obtain ⟨r, ⟨rfl, hp, ho⟩, hK⟩ := h
    refine ⟨1, ?_⟩
    have hd := decI_digL ho.n
    have he : RefT.mk r.d r.p r.t (decI (digL r.x)) r.b = r := by rw [hd]
    refine to (R := (RefP (RefT.mk r.d r.p r.t (decI (digL r.x)) r.b)) ∧ ((RefOk (RefT.mk r.d r.p r.t (decI (digL r.x)) r.b)) ∧ (bcase ((pshortS (RefT.mk r.d r.p r.t (decI (digL r.x)) r.b)).toList == (rshortS (RefT.mk r.d r.p r.t (decI (digL r.x)) r.b)).toList) ((RefP (RefT.mk r.d r.p r.t (decI (digL r.x)) r.b)) ∧ ((RefOk (RefT.mk r.d r.p r.t (decI (digL r.x)) r.b)) ∧ (bcase ((checkS (RefT.mk r.d r.p r.t (decI (digL r.x)) r.b)) == (rcheckS (RefT.mk r.d r.p r.t (decI (digL r.x)) r.b))) (True ∧ (K .ret [(4, (.bool true))] [(VB.row raw 36 [(refL r.d r.p r.t r.x r.b)] .own)])) (K .ret [(4, (.bool false))] [(VB.row raw 36 [(refL r.d r.p r.t r.x r.b)] .own)])))) (K .ret [(4, (.bool false))] [(VB.row raw 36 [(refL r.d r.p r.t r.x r.b)] .own)])))) (by kernel_rfl) ?_
    rw [he]
    obtain ⟨e1, e2, e3⟩ := same r
    simp only [← e1, ← e3, eqs, beq_self_eq_true]
    exact ⟨hp, ho, bcase_t rfl ⟨hp, ho, bcase_t rfl ⟨trivial, hK⟩⟩⟩
  · exact h.elim
def tab5 : Tab := ⟨fun | 9 => some partsLp | _ => none, fun | 18 => some partsJ | _ => none⟩
end Go.Proofs.YtofcjkbgieenlaaDoor.PM

namespace Go.Proofs.YtofcjkbgieenlaaDoor.PM
open Go Go.Proofs Go.RowKit
set_option maxRecDepth 100000
set_option linter.unusedVariables false
set_option linter.unusedSimpArgs false

theorem getD_small {l : List ByteArray} {n : Nat} (h : (l.all fun s => Nat.ble s.size n) = true) (j : Nat) : (l.getD j (ByteArray.mk #[])).size ≤ n := by
  rw [List.getD_eq_getElem?_getD]
  cases hj : l[j]? with
  | none => exact Nat.zero_le _
  | some s => exact Nat.le_of_ble_eq_true (List.all_eq_true.1 h s (List.mem_of_getElem? hj))
def xyzR (x : List Int) : RefT := ⟨(ByteArray.mk #[120, 46, 121]), (ByteArray.mk #[122]), (ByteArray.mk #[]), x, true⟩
theorem good_xyz {x : List Int} (h1 : bytesL x) (h2 : x.length = 32) : Good (xyzR x) := by
  refine ⟨by show domainPS (ByteArray.mk #[120, 46, 121]) = true; kernel_rfl, by show pathPS (ByteArray.mk #[122]) = true; kernel_rfl, ?_, .inl rfl, ?_, ?_, ⟨h1, h2⟩⟩
  · show ((!isS (ByteArray.mk #[]) [] && tagS (ByteArray.mk #[])) || (isS (ByteArray.mk #[]) [] && true)) = true
    kernel_rfl
  · show (toldS (ByteArray.mk #[120, 46, 121]) && (!isS (ByteArray.mk #[120, 46, 121]) [105, 110, 100, 101, 120, 46, 100, 111, 99, 107, 101, 114, 46, 105, 111] && (!isS (ByteArray.mk #[120, 46, 121]) [100, 111, 99, 107, 101, 114, 46, 105, 111] || hasSlash (ByteArray.mk #[122])))) = true
    kernel_rfl
  · have h := congrArg List.length (textS_tail (xyzR x))
    rw [li_size] at h
    rw [h]
    show (li (ByteArray.mk #[120, 46, 121]) ++ 47 :: li (ByteArray.mk #[122]) ++ tail (ByteArray.mk #[]) x true).length ≤ 200
    unfold tail
    rw [show isS (ByteArray.mk #[]) [] = true from by kernel_rfl]
    simp only [Bool.not_true, cond_true, cond_false, List.nil_append, List.length_append, List.length_cons, tell_len h1 h2, li_size, show (ByteArray.mk #[120, 46, 121]).size = 3 from rfl, show (ByteArray.mk #[122]).size = 1 from rfl]
    omega
theorem size_xyz {x : List Int} (h1 : bytesL x) (h2 : x.length = 32) : (rtextS (xyzR x)).size = 77 := by
  have g := good_xyz h1 h2
  have h0 : rcheckS (xyzR x) = 0 := by rw [← check_same]; exact g.zero
  have h := congrArg List.length (textS_tail (xyzR x))
  rw [li_size] at h
  have e : rtextS (xyzR x) = textS tellS (xyzR x) := by unfold rtextS; rw [h0]; rfl
  rw [e, h]
  show (li (ByteArray.mk #[120, 46, 121]) ++ 47 :: li (ByteArray.mk #[122]) ++ tail (ByteArray.mk #[]) x true).length = 77
  unfold tail
  rw [show isS (ByteArray.mk #[]) [] = true from by kernel_rfl]
  simp only [Bool.not_true, cond_true, cond_false, List.nil_append, List.length_append, List.length_cons, tell_len h1 h2, li_size, show (ByteArray.mk #[120, 46, 121]).size = 3 from rfl, show (ByteArray.mk #[122]).size = 1 from rfl]
theorem tmod_in {a : Int} {n : Int} (h : 0 ≤ a) (hn : 0 < n) : 0 ≤ a.tmod n ∧ a.tmod n < n := by
  rw [Int.tmod_eq_emod_of_nonneg h]
  exact ⟨Int.emod_nonneg _ (by omega), Int.emod_lt_of_pos _ hn⟩
def law5G : Pure
  | [.agg ⟨[.int .u8 a0, .int .u8 a1, .int .u8 a2, .int .u8 a3, .int .u8 a4, .int .u8 a5]⟩, .agg ⟨l⟩] => match isDig l with
    | true => some ((0 ≤ a0 ∧ 0 ≤ a1 ∧ 0 ≤ a2 ∧ 0 ≤ a3 ∧ 0 ≤ a4 ∧ 0 ≤ a5) ∧ bytesL (decI l), .bool true)
    | false => none
  | _ => none
attribute [local irreducible] checkS ptextS pshortS pparse9 rparse12 rcheckS rtextS rshortS
set_option maxHeartbeats 2000000 in
theorem law5_ok : PureOk Tryd.prog 5 law5G := by
  refine .of_run (call := callOf [(8, pureS namedG), (9, pureS pparse9G), (10, pureS rparse12G), (11, pureS (refPG fun r => .string (ptextS r))), (12, pureS (refG fun r => .string (rtextS r))), (13, pureS (refPG fun r => .string (pshortS r))), (14, pureS (refG fun r => .string (rshortS r))), (15, pureS (refPG fun r => .int .i64 (checkS r))), (16, pureS rcheckG)]) (hint := hints 5) (tb := tab5) hm (callOf_cons named_ok.spec (callOf_cons pparse9_ok.spec (callOf_cons rparse12_ok.spec (callOf_cons pText_ok.spec (callOf_cons rtext_ok.spec (callOf_cons short_ok.spec (callOf_cons rshort_ok.spec (callOf_cons check_ok.spec (callOf_cons rcheck_ok.spec callOf_nil))))))))) Tryd.func5 (by kernel_rfl) rfl (by kernel_rfl) (by repeat' first | exact trivial | constructor | (intro _ h; cases h; exact partsLp_ok) | (intro _ h; cases h; exact partsJ_ok) | (intro _ h; cases h)) fun args c r h => ?_
  unfold law5G at h
  split at h
  · rename_i a0 a1 a2 a3 a4 a5 l
    split at h
    · rename_i hd
      cases h
      refine ⟨by show (plainL [.int .u8 a0, .int .u8 a1, .int .u8 a2, .int .u8 a3, .int .u8 a4, .int .u8 a5] && (plainL l && true)) = true; rw [dig_of hd]; rfl, fun hs => ⟨rfl, 1, fun K hK => ?_⟩⟩
      rw [show l = digL (decI l) from dig_of hd]
      have hx2 : (decI l).length = 32 := by
        have h3 := congrArg List.length (enc_decI (k := .u8) (l := l) (by simp only [isDig, Bool.and_eq_true] at hd; exact hd.1))
        rw [List.length_map] at h3
        simp only [isDig, Bool.and_eq_true] at hd
        rw [h3]
        exact Nat.eq_of_beq_eq_true hd.2
      obtain ⟨x, hx⟩ : ∃ x, x = decI l := ⟨_, rfl⟩
      rw [← hx] at hs hx2 ⊢
      have hK := hK []
      refine ?_
      refine to (R := need ((decide ((0 : Int) ≤ (a0.tmod (10 : Int)))) && (decide ((a0.tmod (10 : Int)) < (↑10 : Int)))) (need (((a0.tmod (10 : Int)).toNat + 1).ble 10) (need ((decide ((0 : Int) ≤ (a1.tmod (12 : Int)))) && (decide ((a1.tmod (12 : Int)) < (↑12 : Int)))) (need (((a1.tmod (12 : Int)).toNat + 1).ble 12) (need (decide ((([(ByteArray.mk #[]), (ByteArray.mk #[100, 111, 99, 107, 101, 114, 46, 105, 111, 47]), (ByteArray.mk #[105, 110, 100, 101, 120, 46, 100, 111, 99, 107, 101, 114, 46, 105, 111, 47]), (ByteArray.mk #[108, 111, 99, 97, 108, 104, 111, 115, 116, 47]), (ByteArray.mk #[108, 111, 99, 97, 108, 104, 111, 115, 116, 58, 53, 48, 48, 48, 47]), (ByteArray.mk #[97, 45, 98, 46, 67, 47]), (ByteArray.mk #[45, 97, 46, 98, 47]), (ByteArray.mk #[97, 46, 98, 58, 49, 50, 51, 52, 53, 54, 47]), (ByteArray.mk #[114, 101, 103, 105, 115, 116, 114, 121, 47]), (ByteArray.mk #[97, 46, 46, 98, 47])].getD (a0.tmod (10 : Int)).toNat (ByteArray.mk #[])).size + ([(ByteArray.mk #[97]), (ByteArray.mk #[108, 105, 98, 114, 97, 114, 121, 47, 97]), (ByteArray.mk #[97, 47, 98]), (ByteArray.mk #[97, 46, 98, 47, 99]), (ByteArray.mk #[97, 95, 95, 98]), (ByteArray.mk #[97, 95, 95, 95, 98]), (ByteArray.mk #[97, 45, 45, 98]), (ByteArray.mk #[97, 45]), (ByteArray.mk #[97, 46, 95, 98]), (ByteArray.mk #[48, 47, 49, 47, 50]), (ByteArray.mk #[65]), (ByteArray.mk #[])].getD (a1.tmod (12 : Int)).toNat (ByteArray.mk #[])).size) < 9223372036854775808)) (need ((decide ((0 : Int) ≤ (a2.tmod (8 : Int)))) && (decide ((a2.tmod (8 : Int)) < (↑8 : Int)))) (need (((a2.tmod (8 : Int)).toNat + 1).ble 8) (need (decide (((([(ByteArray.mk #[]), (ByteArray.mk #[100, 111, 99, 107, 101, 114, 46, 105, 111, 47]), (ByteArray.mk #[105, 110, 100, 101, 120, 46, 100, 111, 99, 107, 101, 114, 46, 105, 111, 47]), (ByteArray.mk #[108, 111, 99, 97, 108, 104, 111, 115, 116, 47]), (ByteArray.mk #[108, 111, 99, 97, 108, 104, 111, 115, 116, 58, 53, 48, 48, 48, 47]), (ByteArray.mk #[97, 45, 98, 46, 67, 47]), (ByteArray.mk #[45, 97, 46, 98, 47]), (ByteArray.mk #[97, 46, 98, 58, 49, 50, 51, 52, 53, 54, 47]), (ByteArray.mk #[114, 101, 103, 105, 115, 116, 114, 121, 47]), (ByteArray.mk #[97, 46, 46, 98, 47])].getD (a0.tmod (10 : Int)).toNat (ByteArray.mk #[])) ++ ([(ByteArray.mk #[97]), (ByteArray.mk #[108, 105, 98, 114, 97, 114, 121, 47, 97]), (ByteArray.mk #[97, 47, 98]), (ByteArray.mk #[97, 46, 98, 47, 99]), (ByteArray.mk #[97, 95, 95, 98]), (ByteArray.mk #[97, 95, 95, 95, 98]), (ByteArray.mk #[97, 45, 45, 98]), (ByteArray.mk #[97, 45]), (ByteArray.mk #[97, 46, 95, 98]), (ByteArray.mk #[48, 47, 49, 47, 50]), (ByteArray.mk #[65]), (ByteArray.mk #[])].getD (a1.tmod (12 : Int)).toNat (ByteArray.mk #[]))).size + ([(ByteArray.mk #[]), (ByteArray.mk #[58, 108, 97, 116, 101, 115, 116]), (ByteArray.mk #[58, 49, 46, 48]), (ByteArray.mk #[58, 95, 120]), (ByteArray.mk #[58, 46, 120]), (ByteArray.mk #[58, 45, 120]), (ByteArray.mk #[58]), (ByteArray.mk #[58, 48, 49, 50, 51, 52, 53, 54, 55, 56, 57, 48, 49, 50, 51, 52, 53, 54, 55, 56, 57, 48, 49, 50, 51, 52, 53, 54, 55, 56, 57, 48, 49, 50, 51])].getD (a2.tmod (8 : Int)).toNat (ByteArray.mk #[])).size) < 9223372036854775808)) ((RefOk (RefT.mk (ByteArray.mk #[120, 46, 121]) (ByteArray.mk #[122]) (ByteArray.mk #[]) (decI (digL x)) true)) ∧ (need (((decide ((5 : Int) ≤ (↑(rtextS (RefT.mk (ByteArray.mk #[120, 46, 121]) (ByteArray.mk #[122]) (ByteArray.mk #[]) (decI (digL x)) true)).size : Int))) && (decide ((↑(rtextS (RefT.mk (ByteArray.mk #[120, 46, 121]) (ByteArray.mk #[122]) (ByteArray.mk #[]) (decI (digL x)) true)).size : Int) ≤ (↑(rtextS (RefT.mk (ByteArray.mk #[120, 46, 121]) (ByteArray.mk #[122]) (ByteArray.mk #[]) (decI (digL x)) true)).size : Int)))) && true) (need ((decide ((((([(ByteArray.mk #[]), (ByteArray.mk #[100, 111, 99, 107, 101, 114, 46, 105, 111, 47]), (ByteArray.mk #[105, 110, 100, 101, 120, 46, 100, 111, 99, 107, 101, 114, 46, 105, 111, 47]), (ByteArray.mk #[108, 111, 99, 97, 108, 104, 111, 115, 116, 47]), (ByteArray.mk #[108, 111, 99, 97, 108, 104, 111, 115, 116, 58, 53, 48, 48, 48, 47]), (ByteArray.mk #[97, 45, 98, 46, 67, 47]), (ByteArray.mk #[45, 97, 46, 98, 47]), (ByteArray.mk #[97, 46, 98, 58, 49, 50, 51, 52, 53, 54, 47]), (ByteArray.mk #[114, 101, 103, 105, 115, 116, 114, 121, 47]), (ByteArray.mk #[97, 46, 46, 98, 47])].getD (a0.tmod (10 : Int)).toNat (ByteArray.mk #[])) ++ ([(ByteArray.mk #[97]), (ByteArray.mk #[108, 105, 98, 114, 97, 114, 121, 47, 97]), (ByteArray.mk #[97, 47, 98]), (ByteArray.mk #[97, 46, 98, 47, 99]), (ByteArray.mk #[97, 95, 95, 98]), (ByteArray.mk #[97, 95, 95, 95, 98]), (ByteArray.mk #[97, 45, 45, 98]), (ByteArray.mk #[97, 45]), (ByteArray.mk #[97, 46, 95, 98]), (ByteArray.mk #[48, 47, 49, 47, 50]), (ByteArray.mk #[65]), (ByteArray.mk #[])].getD (a1.tmod (12 : Int)).toNat (ByteArray.mk #[]))) ++ ([(ByteArray.mk #[]), (ByteArray.mk #[58, 108, 97, 116, 101, 115, 116]), (ByteArray.mk #[58, 49, 46, 48]), (ByteArray.mk #[58, 95, 120]), (ByteArray.mk #[58, 46, 120]), (ByteArray.mk #[58, 45, 120]), (ByteArray.mk #[58]), (ByteArray.mk #[58, 48, 49, 50, 51, 52, 53, 54, 55, 56, 57, 48, 49, 50, 51, 52, 53, 54, 55, 56, 57, 48, 49, 50, 51, 52, 53, 54, 55, 56, 57, 48, 49, 50, 51])].getD (a2.tmod (8 : Int)).toNat (ByteArray.mk #[]))).size + ((rtextS (RefT.mk (ByteArray.mk #[120, 46, 121]) (ByteArray.mk #[122]) (ByteArray.mk #[]) (decI (digL x)) true)).extract 5 (↑(rtextS (RefT.mk (ByteArray.mk #[120, 46, 121]) (ByteArray.mk #[122]) (ByteArray.mk #[]) (decI (digL x)) true)).size : Int).toNat).size) < 9223372036854775808)) && true) (need (((decide ((5 : Int) ≤ (IntKind.i64.wrap ((↑(rtextS (RefT.mk (ByteArray.mk #[120, 46, 121]) (ByteArray.mk #[122]) (ByteArray.mk #[]) (decI (digL x)) true)).size : Int) - (1 : Int))))) && (decide ((IntKind.i64.wrap ((↑(rtextS (RefT.mk (ByteArray.mk #[120, 46, 121]) (ByteArray.mk #[122]) (ByteArray.mk #[]) (decI (digL x)) true)).size : Int) - (1 : Int))) ≤ (↑(rtextS (RefT.mk (ByteArray.mk #[120, 46, 121]) (ByteArray.mk #[122]) (ByteArray.mk #[]) (decI (digL x)) true)).size : Int)))) && true) (need ((decide ((((([(ByteArray.mk #[]), (ByteArray.mk #[100, 111, 99, 107, 101, 114, 46, 105, 111, 47]), (ByteArray.mk #[105, 110, 100, 101, 120, 46, 100, 111, 99, 107, 101, 114, 46, 105, 111, 47]), (ByteArray.mk #[108, 111, 99, 97, 108, 104, 111, 115, 116, 47]), (ByteArray.mk #[108, 111, 99, 97, 108, 104, 111, 115, 116, 58, 53, 48, 48, 48, 47]), (ByteArray.mk #[97, 45, 98, 46, 67, 47]), (ByteArray.mk #[45, 97, 46, 98, 47]), (ByteArray.mk #[97, 46, 98, 58, 49, 50, 51, 52, 53, 54, 47]), (ByteArray.mk #[114, 101, 103, 105, 115, 116, 114, 121, 47]), (ByteArray.mk #[97, 46, 46, 98, 47])].getD (a0.tmod (10 : Int)).toNat (ByteArray.mk #[])) ++ ([(ByteArray.mk #[97]), (ByteArray.mk #[108, 105, 98, 114, 97, 114, 121, 47, 97]), (ByteArray.mk #[97, 47, 98]), (ByteArray.mk #[97, 46, 98, 47, 99]), (ByteArray.mk #[97, 95, 95, 98]), (ByteArray.mk #[97, 95, 95, 95, 98]), (ByteArray.mk #[97, 45, 45, 98]), (ByteArray.mk #[97, 45]), (ByteArray.mk #[97, 46, 95, 98]), (ByteArray.mk #[48, 47, 49, 47, 50]), (ByteArray.mk #[65]), (ByteArray.mk #[])].getD (a1.tmod (12 : Int)).toNat (ByteArray.mk #[]))) ++ ([(ByteArray.mk #[]), (ByteArray.mk #[58, 108, 97, 116, 101, 115, 116]), (ByteArray.mk #[58, 49, 46, 48]), (ByteArray.mk #[58, 95, 120]), (ByteArray.mk #[58, 46, 120]), (ByteArray.mk #[58, 45, 120]), (ByteArray.mk #[58]), (ByteArray.mk #[58, 48, 49, 50, 51, 52, 53, 54, 55, 56, 57, 48, 49, 50, 51, 52, 53, 54, 55, 56, 57, 48, 49, 50, 51, 52, 53, 54, 55, 56, 57, 48, 49, 50, 51])].getD (a2.tmod (8 : Int)).toNat (ByteArray.mk #[]))).size + ((rtextS (RefT.mk (ByteArray.mk #[120, 46, 121]) (ByteArray.mk #[122]) (ByteArray.mk #[]) (decI (digL x)) true)).extract 5 (IntKind.i64.wrap ((↑(rtextS (RefT.mk (ByteArray.mk #[120, 46, 121]) (ByteArray.mk #[122]) (ByteArray.mk #[]) (decI (digL x)) true)).size : Int) - (1 : Int))).toNat).size) < 9223372036854775808)) && true) (need ((decide ((((([(ByteArray.mk #[]), (ByteArray.mk #[100, 111, 99, 107, 101, 114, 46, 105, 111, 47]), (ByteArray.mk #[105, 110, 100, 101, 120, 46, 100, 111, 99, 107, 101, 114, 46, 105, 111, 47]), (ByteArray.mk #[108, 111, 99, 97, 108, 104, 111, 115, 116, 47]), (ByteArray.mk #[108, 111, 99, 97, 108, 104, 111, 115, 116, 58, 53, 48, 48, 48, 47]), (ByteArray.mk #[97, 45, 98, 46, 67, 47]), (ByteArray.mk #[45, 97, 46, 98, 47]), (ByteArray.mk #[97, 46, 98, 58, 49, 50, 51, 52, 53, 54, 47]), (ByteArray.mk #[114, 101, 103, 105, 115, 116, 114, 121, 47]), (ByteArray.mk #[97, 46, 46, 98, 47])].getD (a0.tmod (10 : Int)).toNat (ByteArray.mk #[])) ++ ([(ByteArray.mk #[97]), (ByteArray.mk #[108, 105, 98, 114, 97, 114, 121, 47, 97]), (ByteArray.mk #[97, 47, 98]), (ByteArray.mk #[97, 46, 98, 47, 99]), (ByteArray.mk #[97, 95, 95, 98]), (ByteArray.mk #[97, 95, 95, 95, 98]), (ByteArray.mk #[97, 45, 45, 98]), (ByteArray.mk #[97, 45]), (ByteArray.mk #[97, 46, 95, 98]), (ByteArray.mk #[48, 47, 49, 47, 50]), (ByteArray.mk #[65]), (ByteArray.mk #[])].getD (a1.tmod (12 : Int)).toNat (ByteArray.mk #[]))) ++ ([(ByteArray.mk #[]), (ByteArray.mk #[58, 108, 97, 116, 101, 115, 116]), (ByteArray.mk #[58, 49, 46, 48]), (ByteArray.mk #[58, 95, 120]), (ByteArray.mk #[58, 46, 120]), (ByteArray.mk #[58, 45, 120]), (ByteArray.mk #[58]), (ByteArray.mk #[58, 48, 49, 50, 51, 52, 53, 54, 55, 56, 57, 48, 49, 50, 51, 52, 53, 54, 55, 56, 57, 48, 49, 50, 51, 52, 53, 54, 55, 56, 57, 48, 49, 50, 51])].getD (a2.tmod (8 : Int)).toNat (ByteArray.mk #[]))).size + 1) < 9223372036854775808)) && true) (need (((decide ((0 : Int) ≤ (([a0, a1, a2, a3, a4, a5].getD 3 (0 : Int)).tmod (8 : Int)))) && (decide ((([a0, a1, a2, a3, a4, a5].getD 3 (0 : Int)).tmod (8 : Int)) < (↑8 : Int)))) && true) (need ((((([a0, a1, a2, a3, a4, a5].getD 3 (0 : Int)).tmod (8 : Int)).toNat + 1).ble 8) && true) (need ((decide (((((([(ByteArray.mk #[]), (ByteArray.mk #[100, 111, 99, 107, 101, 114, 46, 105, 111, 47]), (ByteArray.mk #[105, 110, 100, 101, 120, 46, 100, 111, 99, 107, 101, 114, 46, 105, 111, 47]), (ByteArray.mk #[108, 111, 99, 97, 108, 104, 111, 115, 116, 47]), (ByteArray.mk #[108, 111, 99, 97, 108, 104, 111, 115, 116, 58, 53, 48, 48, 48, 47]), (ByteArray.mk #[97, 45, 98, 46, 67, 47]), (ByteArray.mk #[45, 97, 46, 98, 47]), (ByteArray.mk #[97, 46, 98, 58, 49, 50, 51, 52, 53, 54, 47]), (ByteArray.mk #[114, 101, 103, 105, 115, 116, 114, 121, 47]), (ByteArray.mk #[97, 46, 46, 98, 47])].getD (a0.tmod (10 : Int)).toNat (ByteArray.mk #[])) ++ ([(ByteArray.mk #[97]), (ByteArray.mk #[108, 105, 98, 114, 97, 114, 121, 47, 97]), (ByteArray.mk #[97, 47, 98]), (ByteArray.mk #[97, 46, 98, 47, 99]), (ByteArray.mk #[97, 95, 95, 98]), (ByteArray.mk #[97, 95, 95, 95, 98]), (ByteArray.mk #[97, 45, 45, 98]), (ByteArray.mk #[97, 45]), (ByteArray.mk #[97, 46, 95, 98]), (ByteArray.mk #[48, 47, 49, 47, 50]), (ByteArray.mk #[65]), (ByteArray.mk #[])].getD (a1.tmod (12 : Int)).toNat (ByteArray.mk #[]))) ++ ([(ByteArray.mk #[]), (ByteArray.mk #[58, 108, 97, 116, 101, 115, 116]), (ByteArray.mk #[58, 49, 46, 48]), (ByteArray.mk #[58, 95, 120]), (ByteArray.mk #[58, 46, 120]), (ByteArray.mk #[58, 45, 120]), (ByteArray.mk #[58]), (ByteArray.mk #[58, 48, 49, 50, 51, 52, 53, 54, 55, 56, 57, 48, 49, 50, 51, 52, 53, 54, 55, 56, 57, 48, 49, 50, 51, 52, 53, 54, 55, 56, 57, 48, 49, 50, 51])].getD (a2.tmod (8 : Int)).toNat (ByteArray.mk #[]))) ++ (ByteArray.mk #[64])).size + ([(ByteArray.mk #[]), (ByteArray.mk #[58, 108, 97, 116, 101, 115, 116]), (ByteArray.mk #[58, 49, 46, 48]), (ByteArray.mk #[58, 95, 120]), (ByteArray.mk #[58, 46, 120]), (ByteArray.mk #[58, 45, 120]), (ByteArray.mk #[58]), (ByteArray.mk #[58, 48, 49, 50, 51, 52, 53, 54, 55, 56, 57, 48, 49, 50, 51, 52, 53, 54, 55, 56, 57, 48, 49, 50, 51, 52, 53, 54, 55, 56, 57, 48, 49, 50, 51])].getD (([a0, a1, a2, a3, a4, a5].getD 3 (0 : Int)).tmod (8 : Int)).toNat (ByteArray.mk #[])).size) < 9223372036854775808)) && true) (∃ (nn : (List Int)), (∃ (pl : (List ByteArray)), (∃ (x_1 : (List Int)), (∃ (l : (List ByteArray)), ((((0 : Int) = (0 : Int)) ∧ (((l.length = 4) ∧ (∀ (s : ByteArray), ((s ∈ l) → (s.size < 1000)))) ∧ ([(VB.row (arrC .u8) 6 [[a0, a1, a2, a3, a4, a5]] .own), (VB.row strsC 12 [[(ByteArray.mk #[97]), (ByteArray.mk #[108, 105, 98, 114, 97, 114, 121, 47, 97]), (ByteArray.mk #[97, 47, 98]), (ByteArray.mk #[97, 46, 98, 47, 99]), (ByteArray.mk #[97, 95, 95, 98]), (ByteArray.mk #[97, 95, 95, 95, 98]), (ByteArray.mk #[97, 45, 45, 98]), (ByteArray.mk #[97, 45]), (ByteArray.mk #[97, 46, 95, 98]), (ByteArray.mk #[48, 47, 49, 47, 50]), (ByteArray.mk #[65]), (ByteArray.mk #[])]] .own), (VB.row raw 36 [(refL (ByteArray.mk #[]) (ByteArray.mk #[]) (ByteArray.mk #[]) x true)] .own), (VB.row strsC 4 [[((([(ByteArray.mk #[]), (ByteArray.mk #[100, 111, 99, 107, 101, 114, 46, 105, 111, 47]), (ByteArray.mk #[105, 110, 100, 101, 120, 46, 100, 111, 99, 107, 101, 114, 46, 105, 111, 47]), (ByteArray.mk #[108, 111, 99, 97, 108, 104, 111, 115, 116, 47]), (ByteArray.mk #[108, 111, 99, 97, 108, 104, 111, 115, 116, 58, 53, 48, 48, 48, 47]), (ByteArray.mk #[97, 45, 98, 46, 67, 47]), (ByteArray.mk #[45, 97, 46, 98, 47]), (ByteArray.mk #[97, 46, 98, 58, 49, 50, 51, 52, 53, 54, 47]), (ByteArray.mk #[114, 101, 103, 105, 115, 116, 114, 121, 47]), (ByteArray.mk #[97, 46, 46, 98, 47])].getD (a0.tmod (10 : Int)).toNat (ByteArray.mk #[])) ++ ([(ByteArray.mk #[97]), (ByteArray.mk #[108, 105, 98, 114, 97, 114, 121, 47, 97]), (ByteArray.mk #[97, 47, 98]), (ByteArray.mk #[97, 46, 98, 47, 99]), (ByteArray.mk #[97, 95, 95, 98]), (ByteArray.mk #[97, 95, 95, 95, 98]), (ByteArray.mk #[97, 45, 45, 98]), (ByteArray.mk #[97, 45]), (ByteArray.mk #[97, 46, 95, 98]), (ByteArray.mk #[48, 47, 49, 47, 50]), (ByteArray.mk #[65]), (ByteArray.mk #[])].getD (a1.tmod (12 : Int)).toNat (ByteArray.mk #[]))) ++ ([(ByteArray.mk #[]), (ByteArray.mk #[58, 108, 97, 116, 101, 115, 116]), (ByteArray.mk #[58, 49, 46, 48]), (ByteArray.mk #[58, 95, 120]), (ByteArray.mk #[58, 46, 120]), (ByteArray.mk #[58, 45, 120]), (ByteArray.mk #[58]), (ByteArray.mk #[58, 48, 49, 50, 51, 52, 53, 54, 55, 56, 57, 48, 49, 50, 51, 52, 53, 54, 55, 56, 57, 48, 49, 50, 51, 52, 53, 54, 55, 56, 57, 48, 49, 50, 51])].getD (a2.tmod (8 : Int)).toNat (ByteArray.mk #[]))), (((([(ByteArray.mk #[]), (ByteArray.mk #[100, 111, 99, 107, 101, 114, 46, 105, 111, 47]), (ByteArray.mk #[105, 110, 100, 101, 120, 46, 100, 111, 99, 107, 101, 114, 46, 105, 111, 47]), (ByteArray.mk #[108, 111, 99, 97, 108, 104, 111, 115, 116, 47]), (ByteArray.mk #[108, 111, 99, 97, 108, 104, 111, 115, 116, 58, 53, 48, 48, 48, 47]), (ByteArray.mk #[97, 45, 98, 46, 67, 47]), (ByteArray.mk #[45, 97, 46, 98, 47]), (ByteArray.mk #[97, 46, 98, 58, 49, 50, 51, 52, 53, 54, 47]), (ByteArray.mk #[114, 101, 103, 105, 115, 116, 114, 121, 47]), (ByteArray.mk #[97, 46, 46, 98, 47])].getD (a0.tmod (10 : Int)).toNat (ByteArray.mk #[])) ++ ([(ByteArray.mk #[97]), (ByteArray.mk #[108, 105, 98, 114, 97, 114, 121, 47, 97]), (ByteArray.mk #[97, 47, 98]), (ByteArray.mk #[97, 46, 98, 47, 99]), (ByteArray.mk #[97, 95, 95, 98]), (ByteArray.mk #[97, 95, 95, 95, 98]), (ByteArray.mk #[97, 45, 45, 98]), (ByteArray.mk #[97, 45]), (ByteArray.mk #[97, 46, 95, 98]), (ByteArray.mk #[48, 47, 49, 47, 50]), (ByteArray.mk #[65]), (ByteArray.mk #[])].getD (a1.tmod (12 : Int)).toNat (ByteArray.mk #[]))) ++ ([(ByteArray.mk #[]), (ByteArray.mk #[58, 108, 97, 116, 101, 115, 116]), (ByteArray.mk #[58, 49, 46, 48]), (ByteArray.mk #[58, 95, 120]), (ByteArray.mk #[58, 46, 120]), (ByteArray.mk #[58, 45, 120]), (ByteArray.mk #[58]), (ByteArray.mk #[58, 48, 49, 50, 51, 52, 53, 54, 55, 56, 57, 48, 49, 50, 51, 52, 53, 54, 55, 56, 57, 48, 49, 50, 51, 52, 53, 54, 55, 56, 57, 48, 49, 50, 51])].getD (a2.tmod (8 : Int)).toNat (ByteArray.mk #[]))) ++ ((rtextS (RefT.mk (ByteArray.mk #[120, 46, 121]) (ByteArray.mk #[122]) (ByteArray.mk #[]) (decI (digL x)) true)).extract 5 (↑(rtextS (RefT.mk (ByteArray.mk #[120, 46, 121]) (ByteArray.mk #[122]) (ByteArray.mk #[]) (decI (digL x)) true)).size : Int).toNat)), (((([(ByteArray.mk #[]), (ByteArray.mk #[100, 111, 99, 107, 101, 114, 46, 105, 111, 47]), (ByteArray.mk #[105, 110, 100, 101, 120, 46, 100, 111, 99, 107, 101, 114, 46, 105, 111, 47]), (ByteArray.mk #[108, 111, 99, 97, 108, 104, 111, 115, 116, 47]), (ByteArray.mk #[108, 111, 99, 97, 108, 104, 111, 115, 116, 58, 53, 48, 48, 48, 47]), (ByteArray.mk #[97, 45, 98, 46, 67, 47]), (ByteArray.mk #[45, 97, 46, 98, 47]), (ByteArray.mk #[97, 46, 98, 58, 49, 50, 51, 52, 53, 54, 47]), (ByteArray.mk #[114, 101, 103, 105, 115, 116, 114, 121, 47]), (ByteArray.mk #[97, 46, 46, 98, 47])].getD (a0.tmod (10 : Int)).toNat (ByteArray.mk #[])) ++ ([(ByteArray.mk #[97]), (ByteArray.mk #[108, 105, 98, 114, 97, 114, 121, 47, 97]), (ByteArray.mk #[97, 47, 98]), (ByteArray.mk #[97, 46, 98, 47, 99]), (ByteArray.mk #[97, 95, 95, 98]), (ByteArray.mk #[97, 95, 95, 95, 98]), (ByteArray.mk #[97, 45, 45, 98]), (ByteArray.mk #[97, 45]), (ByteArray.mk #[97, 46, 95, 98]), (ByteArray.mk #[48, 47, 49, 47, 50]), (ByteArray.mk #[65]), (ByteArray.mk #[])].getD (a1.tmod (12 : Int)).toNat (ByteArray.mk #[]))) ++ ([(ByteArray.mk #[]), (ByteArray.mk #[58, 108, 97, 116, 101, 115, 116]), (ByteArray.mk #[58, 49, 46, 48]), (ByteArray.mk #[58, 95, 120]), (ByteArray.mk #[58, 46, 120]), (ByteArray.mk #[58, 45, 120]), (ByteArray.mk #[58]), (ByteArray.mk #[58, 48, 49, 50, 51, 52, 53, 54, 55, 56, 57, 48, 49, 50, 51, 52, 53, 54, 55, 56, 57, 48, 49, 50, 51, 52, 53, 54, 55, 56, 57, 48, 49, 50, 51])].getD (a2.tmod (8 : Int)).toNat (ByteArray.mk #[]))) ++ ((rtextS (RefT.mk (ByteArray.mk #[120, 46, 121]) (ByteArray.mk #[122]) (ByteArray.mk #[]) (decI (digL x)) true)).extract 5 (IntKind.i64.wrap ((↑(rtextS (RefT.mk (ByteArray.mk #[120, 46, 121]) (ByteArray.mk #[122]) (ByteArray.mk #[]) (decI (digL x)) true)).size : Int) - (1 : Int))).toNat)), ((((([(ByteArray.mk #[]), (ByteArray.mk #[100, 111, 99, 107, 101, 114, 46, 105, 111, 47]), (ByteArray.mk #[105, 110, 100, 101, 120, 46, 100, 111, 99, 107, 101, 114, 46, 105, 111, 47]), (ByteArray.mk #[108, 111, 99, 97, 108, 104, 111, 115, 116, 47]), (ByteArray.mk #[108, 111, 99, 97, 108, 104, 111, 115, 116, 58, 53, 48, 48, 48, 47]), (ByteArray.mk #[97, 45, 98, 46, 67, 47]), (ByteArray.mk #[45, 97, 46, 98, 47]), (ByteArray.mk #[97, 46, 98, 58, 49, 50, 51, 52, 53, 54, 47]), (ByteArray.mk #[114, 101, 103, 105, 115, 116, 114, 121, 47]), (ByteArray.mk #[97, 46, 46, 98, 47])].getD (a0.tmod (10 : Int)).toNat (ByteArray.mk #[])) ++ ([(ByteArray.mk #[97]), (ByteArray.mk #[108, 105, 98, 114, 97, 114, 121, 47, 97]), (ByteArray.mk #[97, 47, 98]), (ByteArray.mk #[97, 46, 98, 47, 99]), (ByteArray.mk #[97, 95, 95, 98]), (ByteArray.mk #[97, 95, 95, 95, 98]), (ByteArray.mk #[97, 45, 45, 98]), (ByteArray.mk #[97, 45]), (ByteArray.mk #[97, 46, 95, 98]), (ByteArray.mk #[48, 47, 49, 47, 50]), (ByteArray.mk #[65]), (ByteArray.mk #[])].getD (a1.tmod (12 : Int)).toNat (ByteArray.mk #[]))) ++ ([(ByteArray.mk #[]), (ByteArray.mk #[58, 108, 97, 116, 101, 115, 116]), (ByteArray.mk #[58, 49, 46, 48]), (ByteArray.mk #[58, 95, 120]), (ByteArray.mk #[58, 46, 120]), (ByteArray.mk #[58, 45, 120]), (ByteArray.mk #[58]), (ByteArray.mk #[58, 48, 49, 50, 51, 52, 53, 54, 55, 56, 57, 48, 49, 50, 51, 52, 53, 54, 55, 56, 57, 48, 49, 50, 51, 52, 53, 54, 55, 56, 57, 48, 49, 50, 51])].getD (a2.tmod (8 : Int)).toNat (ByteArray.mk #[]))) ++ (ByteArray.mk #[64])) ++ ([(ByteArray.mk #[]), (ByteArray.mk #[58, 108, 97, 116, 101, 115, 116]), (ByteArray.mk #[58, 49, 46, 48]), (ByteArray.mk #[58, 95, 120]), (ByteArray.mk #[58, 46, 120]), (ByteArray.mk #[58, 45, 120]), (ByteArray.mk #[58]), (ByteArray.mk #[58, 48, 49, 50, 51, 52, 53, 54, 55, 56, 57, 48, 49, 50, 51, 52, 53, 54, 55, 56, 57, 48, 49, 50, 51, 52, 53, 54, 55, 56, 57, 48, 49, 50, 51])].getD (a3.tmod (8 : Int)).toNat (ByteArray.mk #[])))]] .own)] = [(VB.row (arrC .u8) 6 [nn] .own), (VB.row strsC 12 [pl] .own), (VB.row raw 36 [(refL (ByteArray.mk #[]) (ByteArray.mk #[]) (ByteArray.mk #[]) x_1 true)] .own), (VB.row strsC 4 [l] .own)]))) ∧ ((need (((decide ((0 : Int) ≤ ((nn.getD 4 (0 : Int)).tmod (12 : Int)))) && (decide (((nn.getD 4 (0 : Int)).tmod (12 : Int)) < (↑12 : Int)))) && true) ((need ((((nn.getD 4 (0 : Int)).tmod (12 : Int)).toNat + 1).ble 12) ((bcase (!(((nn.getD 5 (0 : Int)).tmod (2 : Int)) == (0 : Int))) (∃ (r : RefT), ((([(VB.row raw 36 [(refL (ByteArray.mk #[100, 111, 99, 107, 101, 114, 46, 105, 111]) (pl.getD ((nn.getD 4 (0 : Int)).tmod (12 : Int)).toNat (ByteArray.mk #[])) (ByteArray.mk #[108, 97, 116, 101, 115, 116]) zerosL (((nn.getD 5 (0 : Int)).tmod (2 : Int)) == (0 : Int)))] .own)] = [(VB.row raw 36 [(refL r.d r.p r.t r.x r.b)] .own)]) ∧ ((RefP r) ∧ (RefOk r))) ∧ (K (.bool true) []))) (∃ (r : RefT), ((([(VB.row raw 36 [(refL (ByteArray.mk #[100, 111, 99, 107, 101, 114, 46, 105, 111]) (pl.getD ((nn.getD 4 (0 : Int)).tmod (12 : Int)).toNat (ByteArray.mk #[])) (ByteArray.mk #[108, 97, 116, 101, 115, 116]) x_1 (((nn.getD 5 (0 : Int)).tmod (2 : Int)) == (0 : Int)))] .own)] = [(VB.row raw 36 [(refL r.d r.p r.t r.x r.b)] .own)]) ∧ ((RefP r) ∧ (RefOk r))) ∧ (K (.bool true) [])))) ∧ (((bcase (!(((nn.getD 5 (0 : Int)).tmod (2 : Int)) == (0 : Int))) (∃ (r : RefT), ((([(VB.row raw 36 [(refL (ByteArray.mk #[100, 111, 99, 107, 101, 114, 46, 105, 111]) (pl.getD ((nn.getD 4 (0 : Int)).tmod (12 : Int)).toNat (ByteArray.mk #[])) (ByteArray.mk #[108, 97, 116, 101, 115, 116]) zerosL (((nn.getD 5 (0 : Int)).tmod (2 : Int)) == (0 : Int)))] .own)] = [(VB.row raw 36 [(refL r.d r.p r.t r.x r.b)] .own)]) ∧ ((RefP r) ∧ (RefOk r))) ∧ (K (.bool true) []))) (∃ (r : RefT), ((([(VB.row raw 36 [(refL (ByteArray.mk #[100, 111, 99, 107, 101, 114, 46, 105, 111]) (pl.getD ((nn.getD 4 (0 : Int)).tmod (12 : Int)).toNat (ByteArray.mk #[])) (ByteArray.mk #[108, 97, 116, 101, 115, 116]) x_1 (((nn.getD 5 (0 : Int)).tmod (2 : Int)) == (0 : Int)))] .own)] = [(VB.row raw 36 [(refL r.d r.p r.t r.x r.b)] .own)]) ∧ ((RefP r) ∧ (RefOk r))) ∧ (K (.bool true) [])))) ∧ (((bcase (!(((nn.getD 5 (0 : Int)).tmod (2 : Int)) == (0 : Int))) (∃ (r : RefT), ((([(VB.row raw 36 [(refL (ByteArray.mk #[100, 111, 99, 107, 101, 114, 46, 105, 111]) (pl.getD ((nn.getD 4 (0 : Int)).tmod (12 : Int)).toNat (ByteArray.mk #[])) (ByteArray.mk #[108, 97, 116, 101, 115, 116]) zerosL (((nn.getD 5 (0 : Int)).tmod (2 : Int)) == (0 : Int)))] .own)] = [(VB.row raw 36 [(refL r.d r.p r.t r.x r.b)] .own)]) ∧ ((RefP r) ∧ (RefOk r))) ∧ (K (.bool true) []))) (∃ (r : RefT), ((([(VB.row raw 36 [(refL (ByteArray.mk #[100, 111, 99, 107, 101, 114, 46, 105, 111]) (pl.getD ((nn.getD 4 (0 : Int)).tmod (12 : Int)).toNat (ByteArray.mk #[])) (ByteArray.mk #[108, 97, 116, 101, 115, 116]) x_1 (((nn.getD 5 (0 : Int)).tmod (2 : Int)) == (0 : Int)))] .own)] = [(VB.row raw 36 [(refL r.d r.p r.t r.x r.b)] .own)]) ∧ ((RefP r) ∧ (RefOk r))) ∧ (K (.bool true) [])))) ∧ ((bcase (!(((nn.getD 5 (0 : Int)).tmod (2 : Int)) == (0 : Int))) (∃ (r : RefT), ((([(VB.row raw 36 [(refL (ByteArray.mk #[100, 111, 99, 107, 101, 114, 46, 105, 111]) (pl.getD ((nn.getD 4 (0 : Int)).tmod (12 : Int)).toNat (ByteArray.mk #[])) (ByteArray.mk #[108, 97, 116, 101, 115, 116]) zerosL (((nn.getD 5 (0 : Int)).tmod (2 : Int)) == (0 : Int)))] .own)] = [(VB.row raw 36 [(refL r.d r.p r.t r.x r.b)] .own)]) ∧ ((RefP r) ∧ (RefOk r))) ∧ (K (.bool true) []))) (∃ (r : RefT), ((([(VB.row raw 36 [(refL (ByteArray.mk #[100, 111, 99, 107, 101, 114, 46, 105, 111]) (pl.getD ((nn.getD 4 (0 : Int)).tmod (12 : Int)).toNat (ByteArray.mk #[])) (ByteArray.mk #[108, 97, 116, 101, 115, 116]) x_1 (((nn.getD 5 (0 : Int)).tmod (2 : Int)) == (0 : Int)))] .own)] = [(VB.row raw 36 [(refL r.d r.p r.t r.x r.b)] .own)]) ∧ ((RefP r) ∧ (RefOk r))) ∧ (K (.bool true) [])))) ∧ True)) ∧ True)) ∧ True))) ∧ (((need ((((nn.getD 4 (0 : Int)).tmod (12 : Int)).toNat + 1).ble 12) (bcase (!(((nn.getD 5 (0 : Int)).tmod (2 : Int)) == (0 : Int))) (∃ (r : RefT), ((([(VB.row raw 36 [(refL (ByteArray.mk #[100, 111, 99, 107, 101, 114, 46, 105, 111]) (pl.getD ((nn.getD 4 (0 : Int)).tmod (12 : Int)).toNat (ByteArray.mk #[])) (ByteArray.mk #[108, 97, 116, 101, 115, 116]) zerosL (((nn.getD 5 (0 : Int)).tmod (2 : Int)) == (0 : Int)))] .own)] = [(VB.row raw 36 [(refL r.d r.p r.t r.x r.b)] .own)]) ∧ ((RefP r) ∧ (RefOk r))) ∧ (K (.bool true) []))) (∃ (r : RefT), ((([(VB.row raw 36 [(refL (ByteArray.mk #[100, 111, 99, 107, 101, 114, 46, 105, 111]) (pl.getD ((nn.getD 4 (0 : Int)).tmod (12 : Int)).toNat (ByteArray.mk #[])) (ByteArray.mk #[108, 97, 116, 101, 115, 116]) x_1 (((nn.getD 5 (0 : Int)).tmod (2 : Int)) == (0 : Int)))] .own)] = [(VB.row raw 36 [(refL r.d r.p r.t r.x r.b)] .own)]) ∧ ((RefP r) ∧ (RefOk r))) ∧ (K (.bool true) []))))) ∧ ((need ((((nn.getD 4 (0 : Int)).tmod (12 : Int)).toNat + 1).ble 12) (bcase (!(((nn.getD 5 (0 : Int)).tmod (2 : Int)) == (0 : Int))) (∃ (r : RefT), ((([(VB.row raw 36 [(refL (ByteArray.mk #[100, 111, 99, 107, 101, 114, 46, 105, 111]) (pl.getD ((nn.getD 4 (0 : Int)).tmod (12 : Int)).toNat (ByteArray.mk #[])) (ByteArray.mk #[108, 97, 116, 101, 115, 116]) zerosL (((nn.getD 5 (0 : Int)).tmod (2 : Int)) == (0 : Int)))] .own)] = [(VB.row raw 36 [(refL r.d r.p r.t r.x r.b)] .own)]) ∧ ((RefP r) ∧ (RefOk r))) ∧ (K (.bool true) []))) (∃ (r : RefT), ((([(VB.row raw 36 [(refL (ByteArray.mk #[100, 111, 99, 107, 101, 114, 46, 105, 111]) (pl.getD ((nn.getD 4 (0 : Int)).tmod (12 : Int)).toNat (ByteArray.mk #[])) (ByteArray.mk #[108, 97, 116, 101, 115, 116]) x_1 (((nn.getD 5 (0 : Int)).tmod (2 : Int)) == (0 : Int)))] .own)] = [(VB.row raw 36 [(refL r.d r.p r.t r.x r.b)] .own)]) ∧ ((RefP r) ∧ (RefOk r))) ∧ (K (.bool true) []))))) ∧ True)) ∧ (((need ((((nn.getD 4 (0 : Int)).tmod (12 : Int)).toNat + 1).ble 12) ((bcase (!(((nn.getD 5 (0 : Int)).tmod (2 : Int)) == (0 : Int))) (∃ (r : RefT), ((([(VB.row raw 36 [(refL (ByteArray.mk #[100, 111, 99, 107, 101, 114, 46, 105, 111]) (pl.getD ((nn.getD 4 (0 : Int)).tmod (12 : Int)).toNat (ByteArray.mk #[])) (ByteArray.mk #[108, 97, 116, 101, 115, 116]) zerosL (((nn.getD 5 (0 : Int)).tmod (2 : Int)) == (0 : Int)))] .own)] = [(VB.row raw 36 [(refL r.d r.p r.t r.x r.b)] .own)]) ∧ ((RefP r) ∧ (RefOk r))) ∧ (K (.bool true) []))) (∃ (r : RefT), ((([(VB.row raw 36 [(refL (ByteArray.mk #[100, 111, 99, 107, 101, 114, 46, 105, 111]) (pl.getD ((nn.getD 4 (0 : Int)).tmod (12 : Int)).toNat (ByteArray.mk #[])) (ByteArray.mk #[108, 97, 116, 101, 115, 116]) x_1 (((nn.getD 5 (0 : Int)).tmod (2 : Int)) == (0 : Int)))] .own)] = [(VB.row raw 36 [(refL r.d r.p r.t r.x r.b)] .own)]) ∧ ((RefP r) ∧ (RefOk r))) ∧ (K (.bool true) [])))) ∧ (((bcase (!(((nn.getD 5 (0 : Int)).tmod (2 : Int)) == (0 : Int))) (∃ (r : RefT), ((([(VB.row raw 36 [(refL (ByteArray.mk #[100, 111, 99, 107, 101, 114, 46, 105, 111]) (pl.getD ((nn.getD 4 (0 : Int)).tmod (12 : Int)).toNat (ByteArray.mk #[])) (ByteArray.mk #[108, 97, 116, 101, 115, 116]) zerosL (((nn.getD 5 (0 : Int)).tmod (2 : Int)) == (0 : Int)))] .own)] = [(VB.row raw 36 [(refL r.d r.p r.t r.x r.b)] .own)]) ∧ ((RefP r) ∧ (RefOk r))) ∧ (K (.bool true) []))) (∃ (r : RefT), ((([(VB.row raw 36 [(refL (ByteArray.mk #[100, 111, 99, 107, 101, 114, 46, 105, 111]) (pl.getD ((nn.getD 4 (0 : Int)).tmod (12 : Int)).toNat (ByteArray.mk #[])) (ByteArray.mk #[108, 97, 116, 101, 115, 116]) x_1 (((nn.getD 5 (0 : Int)).tmod (2 : Int)) == (0 : Int)))] .own)] = [(VB.row raw 36 [(refL r.d r.p r.t r.x r.b)] .own)]) ∧ ((RefP r) ∧ (RefOk r))) ∧ (K (.bool true) [])))) ∧ ((bcase (!(((nn.getD 5 (0 : Int)).tmod (2 : Int)) == (0 : Int))) (∃ (r : RefT), ((([(VB.row raw 36 [(refL (ByteArray.mk #[100, 111, 99, 107, 101, 114, 46, 105, 111]) (pl.getD ((nn.getD 4 (0 : Int)).tmod (12 : Int)).toNat (ByteArray.mk #[])) (ByteArray.mk #[108, 97, 116, 101, 115, 116]) zerosL (((nn.getD 5 (0 : Int)).tmod (2 : Int)) == (0 : Int)))] .own)] = [(VB.row raw 36 [(refL r.d r.p r.t r.x r.b)] .own)]) ∧ ((RefP r) ∧ (RefOk r))) ∧ (K (.bool true) []))) (∃ (r : RefT), ((([(VB.row raw 36 [(refL (ByteArray.mk #[100, 111, 99, 107, 101, 114, 46, 105, 111]) (pl.getD ((nn.getD 4 (0 : Int)).tmod (12 : Int)).toNat (ByteArray.mk #[])) (ByteArray.mk #[108, 97, 116, 101, 115, 116]) x_1 (((nn.getD 5 (0 : Int)).tmod (2 : Int)) == (0 : Int)))] .own)] = [(VB.row raw 36 [(refL r.d r.p r.t r.x r.b)] .own)]) ∧ ((RefP r) ∧ (RefOk r))) ∧ (K (.bool true) [])))) ∧ True)) ∧ True))) ∧ ((need ((((nn.getD 4 (0 : Int)).tmod (12 : Int)).toNat + 1).ble 12) (bcase (!(((nn.getD 5 (0 : Int)).tmod (2 : Int)) == (0 : Int))) (∃ (r : RefT), ((([(VB.row raw 36 [(refL (ByteArray.mk #[100, 111, 99, 107, 101, 114, 46, 105, 111]) (pl.getD ((nn.getD 4 (0 : Int)).tmod (12 : Int)).toNat (ByteArray.mk #[])) (ByteArray.mk #[108, 97, 116, 101, 115, 116]) zerosL (((nn.getD 5 (0 : Int)).tmod (2 : Int)) == (0 : Int)))] .own)] = [(VB.row raw 36 [(refL r.d r.p r.t r.x r.b)] .own)]) ∧ ((RefP r) ∧ (RefOk r))) ∧ (K (.bool true) []))) (∃ (r : RefT), ((([(VB.row raw 36 [(refL (ByteArray.mk #[100, 111, 99, 107, 101, 114, 46, 105, 111]) (pl.getD ((nn.getD 4 (0 : Int)).tmod (12 : Int)).toNat (ByteArray.mk #[])) (ByteArray.mk #[108, 97, 116, 101, 115, 116]) x_1 (((nn.getD 5 (0 : Int)).tmod (2 : Int)) == (0 : Int)))] .own)] = [(VB.row raw 36 [(refL r.d r.p r.t r.x r.b)] .own)]) ∧ ((RefP r) ∧ (RefOk r))) ∧ (K (.bool true) []))))) ∧ True)) ∧ True)))) ∧ (((need (((decide ((0 : Int) ≤ ((nn.getD 4 (0 : Int)).tmod (12 : Int)))) && (decide (((nn.getD 4 (0 : Int)).tmod (12 : Int)) < (↑12 : Int)))) && true) ((need ((((nn.getD 4 (0 : Int)).tmod (12 : Int)).toNat + 1).ble 12) (bcase (!(((nn.getD 5 (0 : Int)).tmod (2 : Int)) == (0 : Int))) (∃ (r : RefT), ((([(VB.row raw 36 [(refL (ByteArray.mk #[100, 111, 99, 107, 101, 114, 46, 105, 111]) (pl.getD ((nn.getD 4 (0 : Int)).tmod (12 : Int)).toNat (ByteArray.mk #[])) (ByteArray.mk #[108, 97, 116, 101, 115, 116]) zerosL (((nn.getD 5 (0 : Int)).tmod (2 : Int)) == (0 : Int)))] .own)] = [(VB.row raw 36 [(refL r.d r.p r.t r.x r.b)] .own)]) ∧ ((RefP r) ∧ (RefOk r))) ∧ (K (.bool true) []))) (∃ (r : RefT), ((([(VB.row raw 36 [(refL (ByteArray.mk #[100, 111, 99, 107, 101, 114, 46, 105, 111]) (pl.getD ((nn.getD 4 (0 : Int)).tmod (12 : Int)).toNat (ByteArray.mk #[])) (ByteArray.mk #[108, 97, 116, 101, 115, 116]) x_1 (((nn.getD 5 (0 : Int)).tmod (2 : Int)) == (0 : Int)))] .own)] = [(VB.row raw 36 [(refL r.d r.p r.t r.x r.b)] .own)]) ∧ ((RefP r) ∧ (RefOk r))) ∧ (K (.bool true) []))))) ∧ ((need ((((nn.getD 4 (0 : Int)).tmod (12 : Int)).toNat + 1).ble 12) (bcase (!(((nn.getD 5 (0 : Int)).tmod (2 : Int)) == (0 : Int))) (∃ (r : RefT), ((([(VB.row raw 36 [(refL (ByteArray.mk #[100, 111, 99, 107, 101, 114, 46, 105, 111]) (pl.getD ((nn.getD 4 (0 : Int)).tmod (12 : Int)).toNat (ByteArray.mk #[])) (ByteArray.mk #[108, 97, 116, 101, 115, 116]) zerosL (((nn.getD 5 (0 : Int)).tmod (2 : Int)) == (0 : Int)))] .own)] = [(VB.row raw 36 [(refL r.d r.p r.t r.x r.b)] .own)]) ∧ ((RefP r) ∧ (RefOk r))) ∧ (K (.bool true) []))) (∃ (r : RefT), ((([(VB.row raw 36 [(refL (ByteArray.mk #[100, 111, 99, 107, 101, 114, 46, 105, 111]) (pl.getD ((nn.getD 4 (0 : Int)).tmod (12 : Int)).toNat (ByteArray.mk #[])) (ByteArray.mk #[108, 97, 116, 101, 115, 116]) x_1 (((nn.getD 5 (0 : Int)).tmod (2 : Int)) == (0 : Int)))] .own)] = [(VB.row raw 36 [(refL r.d r.p r.t r.x r.b)] .own)]) ∧ ((RefP r) ∧ (RefOk r))) ∧ (K (.bool true) []))))) ∧ True))) ∧ ((need (((decide ((0 : Int) ≤ ((nn.getD 4 (0 : Int)).tmod (12 : Int)))) && (decide (((nn.getD 4 (0 : Int)).tmod (12 : Int)) < (↑12 : Int)))) && true) (need ((((nn.getD 4 (0 : Int)).tmod (12 : Int)).toNat + 1).ble 12) (bcase (!(((nn.getD 5 (0 : Int)).tmod (2 : Int)) == (0 : Int))) (∃ (r : RefT), ((([(VB.row raw 36 [(refL (ByteArray.mk #[100, 111, 99, 107, 101, 114, 46, 105, 111]) (pl.getD ((nn.getD 4 (0 : Int)).tmod (12 : Int)).toNat (ByteArray.mk #[])) (ByteArray.mk #[108, 97, 116, 101, 115, 116]) zerosL (((nn.getD 5 (0 : Int)).tmod (2 : Int)) == (0 : Int)))] .own)] = [(VB.row raw 36 [(refL r.d r.p r.t r.x r.b)] .own)]) ∧ ((RefP r) ∧ (RefOk r))) ∧ (K (.bool true) []))) (∃ (r : RefT), ((([(VB.row raw 36 [(refL (ByteArray.mk #[100, 111, 99, 107, 101, 114, 46, 105, 111]) (pl.getD ((nn.getD 4 (0 : Int)).tmod (12 : Int)).toNat (ByteArray.mk #[])) (ByteArray.mk #[108, 97, 116, 101, 115, 116]) x_1 (((nn.getD 5 (0 : Int)).tmod (2 : Int)) == (0 : Int)))] .own)] = [(VB.row raw 36 [(refL r.d r.p r.t r.x r.b)] .own)]) ∧ ((RefP r) ∧ (RefOk r))) ∧ (K (.bool true) [])))))) ∧ True)) ∧ (((need (((decide ((0 : Int) ≤ ((nn.getD 4 (0 : Int)).tmod (12 : Int)))) && (decide (((nn.getD 4 (0 : Int)).tmod (12 : Int)) < (↑12 : Int)))) && true) ((need ((((nn.getD 4 (0 : Int)).tmod (12 : Int)).toNat + 1).ble 12) ((bcase (!(((nn.getD 5 (0 : Int)).tmod (2 : Int)) == (0 : Int))) (∃ (r : RefT), ((([(VB.row raw 36 [(refL (ByteArray.mk #[100, 111, 99, 107, 101, 114, 46, 105, 111]) (pl.getD ((nn.getD 4 (0 : Int)).tmod (12 : Int)).toNat (ByteArray.mk #[])) (ByteArray.mk #[108, 97, 116, 101, 115, 116]) zerosL (((nn.getD 5 (0 : Int)).tmod (2 : Int)) == (0 : Int)))] .own)] = [(VB.row raw 36 [(refL r.d r.p r.t r.x r.b)] .own)]) ∧ ((RefP r) ∧ (RefOk r))) ∧ (K (.bool true) []))) (∃ (r : RefT), ((([(VB.row raw 36 [(refL (ByteArray.mk #[100, 111, 99, 107, 101, 114, 46, 105, 111]) (pl.getD ((nn.getD 4 (0 : Int)).tmod (12 : Int)).toNat (ByteArray.mk #[])) (ByteArray.mk #[108, 97, 116, 101, 115, 116]) x_1 (((nn.getD 5 (0 : Int)).tmod (2 : Int)) == (0 : Int)))] .own)] = [(VB.row raw 36 [(refL r.d r.p r.t r.x r.b)] .own)]) ∧ ((RefP r) ∧ (RefOk r))) ∧ (K (.bool true) [])))) ∧ (((bcase (!(((nn.getD 5 (0 : Int)).tmod (2 : Int)) == (0 : Int))) (∃ (r : RefT), ((([(VB.row raw 36 [(refL (ByteArray.mk #[100, 111, 99, 107, 101, 114, 46, 105, 111]) (pl.getD ((nn.getD 4 (0 : Int)).tmod (12 : Int)).toNat (ByteArray.mk #[])) (ByteArray.mk #[108, 97, 116, 101, 115, 116]) zerosL (((nn.getD 5 (0 : Int)).tmod (2 : Int)) == (0 : Int)))] .own)] = [(VB.row raw 36 [(refL r.d r.p r.t r.x r.b)] .own)]) ∧ ((RefP r) ∧ (RefOk r))) ∧ (K (.bool true) []))) (∃ (r : RefT), ((([(VB.row raw 36 [(refL (ByteArray.mk #[100, 111, 99, 107, 101, 114, 46, 105, 111]) (pl.getD ((nn.getD 4 (0 : Int)).tmod (12 : Int)).toNat (ByteArray.mk #[])) (ByteArray.mk #[108, 97, 116, 101, 115, 116]) x_1 (((nn.getD 5 (0 : Int)).tmod (2 : Int)) == (0 : Int)))] .own)] = [(VB.row raw 36 [(refL r.d r.p r.t r.x r.b)] .own)]) ∧ ((RefP r) ∧ (RefOk r))) ∧ (K (.bool true) [])))) ∧ ((bcase (!(((nn.getD 5 (0 : Int)).tmod (2 : Int)) == (0 : Int))) (∃ (r : RefT), ((([(VB.row raw 36 [(refL (ByteArray.mk #[100, 111, 99, 107, 101, 114, 46, 105, 111]) (pl.getD ((nn.getD 4 (0 : Int)).tmod (12 : Int)).toNat (ByteArray.mk #[])) (ByteArray.mk #[108, 97, 116, 101, 115, 116]) zerosL (((nn.getD 5 (0 : Int)).tmod (2 : Int)) == (0 : Int)))] .own)] = [(VB.row raw 36 [(refL r.d r.p r.t r.x r.b)] .own)]) ∧ ((RefP r) ∧ (RefOk r))) ∧ (K (.bool true) []))) (∃ (r : RefT), ((([(VB.row raw 36 [(refL (ByteArray.mk #[100, 111, 99, 107, 101, 114, 46, 105, 111]) (pl.getD ((nn.getD 4 (0 : Int)).tmod (12 : Int)).toNat (ByteArray.mk #[])) (ByteArray.mk #[108, 97, 116, 101, 115, 116]) x_1 (((nn.getD 5 (0 : Int)).tmod (2 : Int)) == (0 : Int)))] .own)] = [(VB.row raw 36 [(refL r.d r.p r.t r.x r.b)] .own)]) ∧ ((RefP r) ∧ (RefOk r))) ∧ (K (.bool true) [])))) ∧ True)) ∧ True))) ∧ ((need ((((nn.getD 4 (0 : Int)).tmod (12 : Int)).toNat + 1).ble 12) (bcase (!(((nn.getD 5 (0 : Int)).tmod (2 : Int)) == (0 : Int))) (∃ (r : RefT), ((([(VB.row raw 36 [(refL (ByteArray.mk #[100, 111, 99, 107, 101, 114, 46, 105, 111]) (pl.getD ((nn.getD 4 (0 : Int)).tmod (12 : Int)).toNat (ByteArray.mk #[])) (ByteArray.mk #[108, 97, 116, 101, 115, 116]) zerosL (((nn.getD 5 (0 : Int)).tmod (2 : Int)) == (0 : Int)))] .own)] = [(VB.row raw 36 [(refL r.d r.p r.t r.x r.b)] .own)]) ∧ ((RefP r) ∧ (RefOk r))) ∧ (K (.bool true) []))) (∃ (r : RefT), ((([(VB.row raw 36 [(refL (ByteArray.mk #[100, 111, 99, 107, 101, 114, 46, 105, 111]) (pl.getD ((nn.getD 4 (0 : Int)).tmod (12 : Int)).toNat (ByteArray.mk #[])) (ByteArray.mk #[108, 97, 116, 101, 115, 116]) x_1 (((nn.getD 5 (0 : Int)).tmod (2 : Int)) == (0 : Int)))] .own)] = [(VB.row raw 36 [(refL r.d r.p r.t r.x r.b)] .own)]) ∧ ((RefP r) ∧ (RefOk r))) ∧ (K (.bool true) []))))) ∧ True))) ∧ ((need (((decide ((0 : Int) ≤ ((nn.getD 4 (0 : Int)).tmod (12 : Int)))) && (decide (((nn.getD 4 (0 : Int)).tmod (12 : Int)) < (↑12 : Int)))) && true) (need ((((nn.getD 4 (0 : Int)).tmod (12 : Int)).toNat + 1).ble 12) (bcase (!(((nn.getD 5 (0 : Int)).tmod (2 : Int)) == (0 : Int))) (∃ (r : RefT), ((([(VB.row raw 36 [(refL (ByteArray.mk #[100, 111, 99, 107, 101, 114, 46, 105, 111]) (pl.getD ((nn.getD 4 (0 : Int)).tmod (12 : Int)).toNat (ByteArray.mk #[])) (ByteArray.mk #[108, 97, 116, 101, 115, 116]) zerosL (((nn.getD 5 (0 : Int)).tmod (2 : Int)) == (0 : Int)))] .own)] = [(VB.row raw 36 [(refL r.d r.p r.t r.x r.b)] .own)]) ∧ ((RefP r) ∧ (RefOk r))) ∧ (K (.bool true) []))) (∃ (r : RefT), ((([(VB.row raw 36 [(refL (ByteArray.mk #[100, 111, 99, 107, 101, 114, 46, 105, 111]) (pl.getD ((nn.getD 4 (0 : Int)).tmod (12 : Int)).toNat (ByteArray.mk #[])) (ByteArray.mk #[108, 97, 116, 101, 115, 116]) x_1 (((nn.getD 5 (0 : Int)).tmod (2 : Int)) == (0 : Int)))] .own)] = [(VB.row raw 36 [(refL r.d r.p r.t r.x r.b)] .own)]) ∧ ((RefP r) ∧ (RefOk r))) ∧ (K (.bool true) [])))))) ∧ True)) ∧ True))))))))))))))))))))))))) (by kernel_rfl) ?_
      obtain ⟨⟨g0, g1, g2, g3, g4, g5⟩, hbx⟩ := hs
      have m0 := tmod_in (n := 10) g0 (by omega)
      have m1 := tmod_in (n := 12) g1 (by omega)
      have m2 := tmod_in (n := 8) g2 (by omega)
      have m3 := tmod_in (n := 8) g3 (by omega)
      have m4 := tmod_in (n := 12) g4 (by omega)
      have z0 := getD_small (l := [(ByteArray.mk #[]), (ByteArray.mk #[100, 111, 99, 107, 101, 114, 46, 105, 111, 47]), (ByteArray.mk #[105, 110, 100, 101, 120, 46, 100, 111, 99, 107, 101, 114, 46, 105, 111, 47]), (ByteArray.mk #[108, 111, 99, 97, 108, 104, 111, 115, 116, 47]), (ByteArray.mk #[108, 111, 99, 97, 108, 104, 111, 115, 116, 58, 53, 48, 48, 48, 47]), (ByteArray.mk #[97, 45, 98, 46, 67, 47]), (ByteArray.mk #[45, 97, 46, 98, 47]), (ByteArray.mk #[97, 46, 98, 58, 49, 50, 51, 52, 53, 54, 47]), (ByteArray.mk #[114, 101, 103, 105, 115, 116, 114, 121, 47]), (ByteArray.mk #[97, 46, 46, 98, 47])]) (n := 20) (by kernel_rfl) (a0.tmod 10).toNat
      have z1 := getD_small (l := [(ByteArray.mk #[97]), (ByteArray.mk #[108, 105, 98, 114, 97, 114, 121, 47, 97]), (ByteArray.mk #[97, 47, 98]), (ByteArray.mk #[97, 46, 98, 47, 99]), (ByteArray.mk #[97, 95, 95, 98]), (ByteArray.mk #[97, 95, 95, 95, 98]), (ByteArray.mk #[97, 45, 45, 98]), (ByteArray.mk #[97, 45]), (ByteArray.mk #[97, 46, 95, 98]), (ByteArray.mk #[48, 47, 49, 47, 50]), (ByteArray.mk #[65]), (ByteArray.mk #[])]) (n := 20) (by kernel_rfl) (a1.tmod 12).toNat
      have z2 := getD_small (l := [(ByteArray.mk #[]), (ByteArray.mk #[58, 108, 97, 116, 101, 115, 116]), (ByteArray.mk #[58, 49, 46, 48]), (ByteArray.mk #[58, 95, 120]), (ByteArray.mk #[58, 46, 120]), (ByteArray.mk #[58, 45, 120]), (ByteArray.mk #[58]), (ByteArray.mk #[58, 48, 49, 50, 51, 52, 53, 54, 55, 56, 57, 48, 49, 50, 51, 52, 53, 54, 55, 56, 57, 48, 49, 50, 51, 52, 53, 54, 55, 56, 57, 48, 49, 50, 51])]) (n := 40) (by kernel_rfl) (a2.tmod 8).toNat
      have z3 := getD_small (l := [(ByteArray.mk #[]), (ByteArray.mk #[58, 108, 97, 116, 101, 115, 116]), (ByteArray.mk #[58, 49, 46, 48]), (ByteArray.mk #[58, 95, 120]), (ByteArray.mk #[58, 46, 120]), (ByteArray.mk #[58, 45, 120]), (ByteArray.mk #[58]), (ByteArray.mk #[58, 48, 49, 50, 51, 52, 53, 54, 55, 56, 57, 48, 49, 50, 51, 52, 53, 54, 55, 56, 57, 48, 49, 50, 51, 52, 53, 54, 55, 56, 57, 48, 49, 50, 51])]) (n := 40) (by kernel_rfl) (a3.tmod 8).toNat
      have z4 := getD_small (l := [(ByteArray.mk #[97]), (ByteArray.mk #[108, 105, 98, 114, 97, 114, 121, 47, 97]), (ByteArray.mk #[97, 47, 98]), (ByteArray.mk #[97, 46, 98, 47, 99]), (ByteArray.mk #[97, 95, 95, 98]), (ByteArray.mk #[97, 95, 95, 95, 98]), (ByteArray.mk #[97, 45, 45, 98]), (ByteArray.mk #[97, 45]), (ByteArray.mk #[97, 46, 95, 98]), (ByteArray.mk #[48, 47, 49, 47, 50]), (ByteArray.mk #[65]), (ByteArray.mk #[])]) (n := 20) (by kernel_rfl) (a4.tmod 12).toNat
      have xok := (good_xyz hbx hx2).l.q (show 3 ≤ 300 by omega) (show 1 ≤ 300 by omega) (show 0 ≤ 300 by omega)
      have xsz := size_xyz hbx hx2
      simp only [decI_digL hx2]
      generalize ([(ByteArray.mk #[]), (ByteArray.mk #[100, 111, 99, 107, 101, 114, 46, 105, 111, 47]), (ByteArray.mk #[105, 110, 100, 101, 120, 46, 100, 111, 99, 107, 101, 114, 46, 105, 111, 47]), (ByteArray.mk #[108, 111, 99, 97, 108, 104, 111, 115, 116, 47]), (ByteArray.mk #[108, 111, 99, 97, 108, 104, 111, 115, 116, 58, 53, 48, 48, 48, 47]), (ByteArray.mk #[97, 45, 98, 46, 67, 47]), (ByteArray.mk #[45, 97, 46, 98, 47]), (ByteArray.mk #[97, 46, 98, 58, 49, 50, 51, 52, 53, 54, 47]), (ByteArray.mk #[114, 101, 103, 105, 115, 116, 114, 121, 47]), (ByteArray.mk #[97, 46, 46, 98, 47])] : List ByteArray).getD (a0.tmod 10).toNat (ByteArray.mk #[]) = s0 at z0 ⊢
      generalize ([(ByteArray.mk #[97]), (ByteArray.mk #[108, 105, 98, 114, 97, 114, 121, 47, 97]), (ByteArray.mk #[97, 47, 98]), (ByteArray.mk #[97, 46, 98, 47, 99]), (ByteArray.mk #[97, 95, 95, 98]), (ByteArray.mk #[97, 95, 95, 95, 98]), (ByteArray.mk #[97, 45, 45, 98]), (ByteArray.mk #[97, 45]), (ByteArray.mk #[97, 46, 95, 98]), (ByteArray.mk #[48, 47, 49, 47, 50]), (ByteArray.mk #[65]), (ByteArray.mk #[])] : List ByteArray).getD (a1.tmod 12).toNat (ByteArray.mk #[]) = s1 at z1 ⊢
      generalize ([(ByteArray.mk #[]), (ByteArray.mk #[58, 108, 97, 116, 101, 115, 116]), (ByteArray.mk #[58, 49, 46, 48]), (ByteArray.mk #[58, 95, 120]), (ByteArray.mk #[58, 46, 120]), (ByteArray.mk #[58, 45, 120]), (ByteArray.mk #[58]), (ByteArray.mk #[58, 48, 49, 50, 51, 52, 53, 54, 55, 56, 57, 48, 49, 50, 51, 52, 53, 54, 55, 56, 57, 48, 49, 50, 51, 52, 53, 54, 55, 56, 57, 48, 49, 50, 51])] : List ByteArray).getD (a2.tmod 8).toNat (ByteArray.mk #[]) = s2 at z2 ⊢
      unfold xyzR at xok xsz
      generalize rtextS (RefT.mk (ByteArray.mk #[120, 46, 121]) (ByteArray.mk #[122]) (ByteArray.mk #[]) x true) = u at xsz ⊢
      have hw : IntKind.i64.wrap ((u.size : Int) - (1 : Int)) = 76 := by rw [xsz]; rfl
      have f3 : ([a0, a1, a2, a3, a4, a5] : List Int).getD 3 0 = a3 := rfl
      have f4 : ([a0, a1, a2, a3, a4, a5] : List Int).getD 4 0 = a4 := rfl
      have f5 : ([a0, a1, a2, a3, a4, a5] : List Int).getD 5 0 = a5 := rfl
      simp only [hw, f3]
      generalize ([(ByteArray.mk #[]), (ByteArray.mk #[58, 108, 97, 116, 101, 115, 116]), (ByteArray.mk #[58, 49, 46, 48]), (ByteArray.mk #[58, 95, 120]), (ByteArray.mk #[58, 46, 120]), (ByteArray.mk #[58, 45, 120]), (ByteArray.mk #[58]), (ByteArray.mk #[58, 48, 49, 50, 51, 52, 53, 54, 55, 56, 57, 48, 49, 50, 51, 52, 53, 54, 55, 56, 57, 48, 49, 50, 51, 52, 53, 54, 55, 56, 57, 48, 49, 50, 51])] : List ByteArray).getD (a3.tmod 8).toNat (ByteArray.mk #[]) = s3 at z3 ⊢
      have k1 : (ByteArray.mk #[64]).size = 1 := rfl
      have hK0 := hK
      refine need_of (by simp only [Bool.and_true, Bool.and_eq_true, decide_eq_true_eq, ByteArray.size_append, ByteArray.size_extract, k1]; omega) ?_
      refine need_of (by (try simp only [Bool.and_true]); exact Nat.ble_eq_true_of_le (by omega)) ?_
      refine need_of (by simp only [Bool.and_true, Bool.and_eq_true, decide_eq_true_eq, ByteArray.size_append, ByteArray.size_extract, k1]; omega) ?_
      refine need_of (by (try simp only [Bool.and_true]); exact Nat.ble_eq_true_of_le (by omega)) ?_
      refine need_of (by simp only [Bool.and_true, Bool.and_eq_true, decide_eq_true_eq, ByteArray.size_append, ByteArray.size_extract, k1]; omega) ?_
      refine need_of (by simp only [Bool.and_true, Bool.and_eq_true, decide_eq_true_eq, ByteArray.size_append, ByteArray.size_extract, k1]; omega) ?_
      refine need_of (by (try simp only [Bool.and_true]); exact Nat.ble_eq_true_of_le (by omega)) ?_
      refine need_of (by simp only [Bool.and_true, Bool.and_eq_true, decide_eq_true_eq, ByteArray.size_append, ByteArray.size_extract, k1]; omega) ?_
      refine ⟨xok.toP.ok, ?_⟩
      refine need_of (by simp only [Bool.and_true, Bool.and_eq_true, decide_eq_true_eq, ByteArray.size_append, ByteArray.size_extract, k1]; omega) ?_
      refine need_of (by simp only [Bool.and_true, Bool.and_eq_true, decide_eq_true_eq, ByteArray.size_append, ByteArray.size_extract, k1]; omega) ?_
      refine need_of (by simp only [Bool.and_true, Bool.and_eq_true, decide_eq_true_eq, ByteArray.size_append, ByteArray.size_extract, k1]; omega) ?_
      refine need_of (by simp only [Bool.and_true, Bool.and_eq_true, decide_eq_true_eq, ByteArray.size_append, ByteArray.size_extract, k1]; omega) ?_
      refine need_of (by simp only [Bool.and_true, Bool.and_eq_true, decide_eq_true_eq, ByteArray.size_append, ByteArray.size_extract, k1]; omega) ?_
      refine need_of (by simp only [Bool.and_true, Bool.and_eq_true, decide_eq_true_eq, ByteArray.size_append, ByteArray.size_extract, k1]; omega) ?_
      refine need_of (by (try simp only [Bool.and_true]); exact Nat.ble_eq_true_of_le (by omega)) ?_
      refine need_of (by simp only [Bool.and_true, Bool.and_eq_true, decide_eq_true_eq, ByteArray.size_append, ByteArray.size_extract, k1]; omega) ?_
      refine ⟨[a0, a1, a2, a3, a4, a5], [(ByteArray.mk #[97]), (ByteArray.mk #[108, 105, 98, 114, 97, 114, 121, 47, 97]), (ByteArray.mk #[97, 47, 98]), (ByteArray.mk #[97, 46, 98, 47, 99]), (ByteArray.mk #[97, 95, 95, 98]), (ByteArray.mk #[97, 95, 95, 95, 98]), (ByteArray.mk #[97, 45, 45, 98]), (ByteArray.mk #[97, 45]), (ByteArray.mk #[97, 46, 95, 98]), (ByteArray.mk #[48, 47, 49, 47, 50]), (ByteArray.mk #[65]), (ByteArray.mk #[])], x, [_, _, _, _], ⟨trivial, ⟨rfl, ?_⟩, rfl⟩, ?_⟩
      · intro s hs
        simp only [List.mem_cons, List.not_mem_nil, or_false] at hs
        rcases hs with rfl | rfl | rfl | rfl <;> simp only [ByteArray.size_append, ByteArray.size_extract, k1] <;> omega
      simp only [f4, f5]
      generalize ([(ByteArray.mk #[97]), (ByteArray.mk #[108, 105, 98, 114, 97, 114, 121, 47, 97]), (ByteArray.mk #[97, 47, 98]), (ByteArray.mk #[97, 46, 98, 47, 99]), (ByteArray.mk #[97, 95, 95, 98]), (ByteArray.mk #[97, 95, 95, 95, 98]), (ByteArray.mk #[97, 45, 45, 98]), (ByteArray.mk #[97, 45]), (ByteArray.mk #[97, 46, 95, 98]), (ByteArray.mk #[48, 47, 49, 47, 50]), (ByteArray.mk #[65]), (ByteArray.mk #[])] : List ByteArray).getD (a4.tmod 12).toNat (ByteArray.mk #[]) = s4 at z4 ⊢
      generalize (a5.tmod 2 == 0) = b5
      have q0 : RefQ ⟨(ByteArray.mk #[100, 111, 99, 107, 101, 114, 46, 105, 111]), s4, (ByteArray.mk #[108, 97, 116, 101, 115, 116]), zerosL, b5⟩ := ⟨show 9 ≤ 300 by omega, show s4.size ≤ 310 by omega, show 6 ≤ 300 by omega, zeros_bytes, rfl⟩
      have qx : RefQ ⟨(ByteArray.mk #[100, 111, 99, 107, 101, 114, 46, 105, 111]), s4, (ByteArray.mk #[108, 97, 116, 101, 115, 116]), x, b5⟩ := ⟨show 9 ≤ 300 by omega, show s4.size ≤ 310 by omega, show 6 ≤ 300 by omega, hbx, hx2⟩
      clear z0 z1 z2 z3 xok xsz hw hx hd
      repeat' first
        | with_reducible exact trivial
        | exact bcase_of (fun _ => ⟨⟨(ByteArray.mk #[100, 111, 99, 107, 101, 114, 46, 105, 111]), s4, (ByteArray.mk #[108, 97, 116, 101, 115, 116]), zerosL, b5⟩, ⟨rfl, q0.toP, q0.toP.ok⟩, hK⟩) (fun _ => ⟨⟨(ByteArray.mk #[100, 111, 99, 107, 101, 114, 46, 105, 111]), s4, (ByteArray.mk #[108, 97, 116, 101, 115, 116]), x, b5⟩, ⟨rfl, qx.toP, qx.toP.ok⟩, hK⟩)
        | with_reducible refine And.intro ?_ ?_
        | with_reducible refine need_of (by first | exact Nat.ble_eq_true_of_le (by omega) | (simp only [Bool.and_true, Bool.and_eq_true, decide_eq_true_eq]; omega)) ?_
    · cases h
  · cases h
theorem law5G_eq {a0 a1 a2 a3 a4 a5 : Int} {l : List Value} (h : isDig l = true) : law5G [.agg ⟨[.int .u8 a0, .int .u8 a1, .int .u8 a2, .int .u8 a3, .int .u8 a4, .int .u8 a5]⟩, .agg ⟨l⟩] = some ((0 ≤ a0 ∧ 0 ≤ a1 ∧ 0 ≤ a2 ∧ 0 ≤ a3 ∧ 0 ≤ a4 ∧ 0 ≤ a5) ∧ bytesL (decI l), .bool true) := by
  unfold law5G
  simp only [h]
end Go.Proofs.YtofcjkbgieenlaaDoor.PM

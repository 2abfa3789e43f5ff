/- The program's parts and paths are the reference's. By an AI agent. -/
import Derived.Test.YtofcjkbgieenlaaDoorPlainC
namespace Go.Proofs.YtofcjkbgieenlaaDoor.PM
open Go Go.Proofs Go.Proofs.YtofcjkbgieenlaaDoor.Hand
set_option maxRecDepth 100000
set_option linter.unusedVariables false
set_option linter.unusedSimpArgs false

theorem pL_false : ∀ d l, pL d l false = false
  | 0, _ => rfl
  | d + 1, _ => rfl
theorem dropW_head (p : UInt8 → Bool) : ∀ l : List UInt8, l.dropWhile p = [] ∨ ∃ b t, l.dropWhile p = b :: t ∧ p b = false
  | [] => .inl rfl
  | a :: l => by
    rw [List.dropWhile_cons]
    cases h : p a with
    | true => simpa using dropW_head p l
    | false => exact .inr ⟨a, l, by simp, h⟩
theorem okGap_pQ {g : List UInt8} (h : okGap g = true) : g.all pQ = true := by
  have h46 : pQ 46 = true := by decide
  have h95 : pQ 95 = true := by decide
  have h45 : pQ 45 = true := by decide
  rcases (okGap_iff g).1 h with rfl | rfl | rfl | rfl | h
  · rfl
  · simp [h46]
  · simp [h95]
  · simp [h95]
  · exact List.all_eq_true.2 fun x hx => by rw [h x hx]; exact h45
theorem pL_A : ∀ (d : Nat) (l : List UInt8), l.length ≤ d → headW l = false → pL d l true = A l []
  | 0, l, hl, _ => by
    obtain rfl : l = [] := List.eq_nil_of_length_eq_zero (by omega)
    rfl
  | d + 1, [], _, _ => rfl
  | d + 1, a :: l, hl, hh => by
    obtain ⟨g, hg⟩ : ∃ g, g = (a :: l).takeWhile (fun b => !Wb b) := ⟨_, rfl⟩
    obtain ⟨r, hr⟩ : ∃ r, r = (a :: l).dropWhile (fun b => !Wb b) := ⟨_, rfl⟩
    have e : a :: l = g ++ r := by rw [hg, hr, List.takeWhile_append_dropWhile]
    have hn : ∀ x ∈ g, Wb x = false := fun x hx => by
      rw [hg] at hx
      have := (List.all_eq_true.1 (List.all_takeWhile (l := a :: l) (p := fun b => !Wb b))) x hx
      simpa using this
    have hrw : r = [] ∨ headW r = true := by
      rcases dropW_head (fun b => !Wb b) (a :: l) with h | ⟨b, t, h, hb⟩
      · exact .inl (hr.trans h)
      · right
        rw [hr, h]
        show Wb b = true
        simpa using hb
    have hne : g ≠ [] := by
      rw [hg, List.takeWhile_cons]
      have : Wb a = false := hh
      simp [this]
    obtain ⟨k1, k2⟩ := gap_parted g r hne hn hrw
    have hlen : r.length ≤ d := by
      have := congrArg List.length e
      rw [List.length_append, List.length_cons] at this
      have hg1 : 0 < g.length := List.length_pos_iff.2 hne
      simp only [List.length_cons] at hl
      omega
    have eA : A (a :: l) [] = (g.all pQ && A r g) := by rw [e, A_gap g [] r hn, List.nil_append]
    have eP : pL (d + 1) (a :: l) true = bif (partedL (g ++ r)).2 then pL d ((partedL (g ++ r)).1.dropWhile Wb) (headW (partedL (g ++ r)).1) else false := by rw [← e]; rfl
    rw [eA, eP]
    cases ho : okGap g with
    | true =>
      rw [k1 ho, okGap_pQ ho]
      simp only [cond_true, Bool.true_and]
      cases r with
      | nil =>
        rw [show headW [] = false from rfl, pL_false]
        cases g with
        | nil => exact absurd rfl hne
        | cons x g => rfl
      | cons b r =>
        have hb : Wb b = true := by
          rcases hrw with h | h
          · cases h
          · exact h
        rw [show headW (b :: r) = Wb b from rfl, hb, List.dropWhile_cons, hb]
        simp only [if_true]
        rw [A, hb, cond_true, ho, Bool.true_and, ← A_words r]
        have hh2 : headW (r.dropWhile Wb) = false := by
          rcases dropW_head Wb r with h | ⟨b, t, h, hb⟩
          · rw [h]; rfl
          · rw [h]; exact hb
        refine pL_A d _ ?_ hh2
        have := (List.dropWhile_sublist Wb (l := r)).length_le
        simp only [List.length_cons] at hlen
        omega
    | false =>
      have hz : A r g = false := by
        cases r with
        | nil =>
          cases g with
          | nil => exact absurd rfl hne
          | cons x g => rfl
        | cons b r =>
          have hb : Wb b = true := by
            rcases hrw with h | h
            · cases h
            · exact h
          rw [A, hb, cond_true, ho, Bool.false_and]
      rw [hz, Bool.and_false]
      cases hp : (partedL (g ++ r)).2 with
      | true => rw [k2 ho hp, cond_true, pL_false]
      | false => rfl
theorem partPS_A (s : ByteArray) : partPS s = (headW (li s) && A (li s) []) := by
  rw [partPS_list]
  cases h : headW (li s) with
  | false => rw [pL_false]; rfl
  | true =>
    have hh2 : headW ((li s).dropWhile Wb) = false := by
      rcases dropW_head Wb (li s) with h | ⟨b, t, h, hb⟩
      · rw [h]; rfl
      · rw [h]; exact hb
    rw [pL_A _ _ (by rw [← li_size]; exact (List.dropWhile_sublist Wb).length_le) hh2, A_words]
    rfl
theorem one_word (s : ByteArray) (i : Nat) (hi : i < (li s).length) : ofS (s.extract i (i + 1)) wordT = Wb ((li s)[i]) := by
  have e : li (s.extract i (i + 1)) = [(li s)[i]] := by
    rw [li_extract, List.drop_take, show i + 1 - i = 1 by omega, List.drop_eq_getElem_cons hi]; rfl
  rw [Bool.eq_iff_iff, ofS_bytes (p := wb) wordT_cls, e]
  simp [Wb]
theorem partFrom_R (s : ByteArray) : ∀ (d i : Nat) (g : ByteArray), i + d = s.size → partFrom s d i g = R ((li s).drop i) (li g)
  | 0, i, g, h => by
    rw [List.drop_of_length_le (by rw [li_size]; omega)]
    rfl
  | d + 1, i, g, h => by
    have hi : i < (li s).length := by rw [li_size]; omega
    have e : li (s.extract i (i + 1)) = [(li s)[i]] := by
      rw [li_extract, List.drop_take, show i + 1 - i = 1 by omega, List.drop_eq_getElem_cons hi]; rfl
    unfold partFrom
    rw [List.drop_eq_getElem_cons hi, R, one_word s i hi, partFrom_R s d (i + 1) _ (by omega), partFrom_R s d (i + 1) _ (by omega), li_append, e, ofL_li]
theorem partS_A (s : ByteArray) : partS s = (headW (li s) && A (li s) []) := by
  unfold partS
  have h0 := isS_nil s
  cases hl : li s with
  | nil =>
    rw [h0.2 hl]
    rfl
  | cons a l =>
    have h1 : isS s [] = false := by
      cases h : isS s [] with
      | false => rfl
      | true => rw [h0.1 h] at hl; cases hl
    have hsz : s.size = l.length + 1 := by rw [← li_size, hl]; rfl
    have hp : ofS s partT = (li s).all pQ := by
      rw [Bool.eq_iff_iff, ofS_bytes (p := partQ) partT_cls, List.all_eq_true]
      exact Iff.rfl
    have hf : ofS (s.extract 0 1) wordT = headW (li s) := by
      have := one_word s 0 (by rw [hl]; simp)
      rw [this]
      simp [hl, headW]
    have hla : ofS (s.extract (s.size - 1) s.size) wordT = lastOK (li s) [] := by
      have := one_word s (s.size - 1) (by rw [li_size]; omega)
      rw [show s.size - 1 + 1 = s.size by omega] at this
      have hk : s.size - 1 < (li s).length := by rw [li_size]; omega
      have hq : (li s).getLast? = some ((li s)[s.size - 1]) := by
        have e1 : (li s).length - 1 = s.size - 1 := by rw [li_size]
        rw [List.getLast?_eq_getElem?, e1, List.getElem?_eq_getElem hk]
      rw [this]
      unfold lastOK
      rw [hq]
    rw [h1, hp, hf, hla, partFrom_R s s.size 0 _ (Nat.zero_add _), List.drop_zero, ← hl, A_ref (li s) []]
    rw [show li (ByteArray.mk #[]) = [] from rfl]
    cases (li s).all pQ <;> cases headW (li s) <;> cases lastOK (li s) [] <;> cases R (li s) [] <;> rfl
theorem part_same (s : ByteArray) : partPS s = partS s := (partPS_A s).trans (partS_A s).symm
theorem path_same (s : ByteArray) : pathPS s = pathS s := by
  unfold pathPS pathS
  rw [pathAll_all _ _ _ (Nat.zero_add _), List.drop_zero, splitS_cut 47 s]
  have : partPS = partS := funext part_same
  rw [this]
  rfl
end Go.Proofs.YtofcjkbgieenlaaDoor.PM

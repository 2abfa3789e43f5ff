/- What the reference's cut tells, on lists of bytes. By an AI agent. -/
import Derived.Test.YtofcjkbgieenlaaDoorRefsH
namespace Go.Proofs.YtofcjkbgieenlaaDoor.PM
open Go Go.Proofs
set_option linter.unusedVariables false

/-- A list's bytes, and a text's list. -/
abbrev ofL (l : List UInt8) : ByteArray := ⟨l.toArray⟩
abbrev li (s : ByteArray) : List UInt8 := s.data.toList
theorem ofL_li (s : ByteArray) : ofL (li s) = s := by cases s; rfl
theorem li_ofL (l : List UInt8) : li (ofL l) = l := rfl
theorem li_inj {s t : ByteArray} (h : li s = li t) : s = t := by rw [← ofL_li s, ← ofL_li t, h]
theorem ofL_append (a b : List UInt8) : ofL a ++ ofL b = ofL (a ++ b) := by
  apply ByteArray.ext; simp
theorem li_append (s t : ByteArray) : li (s ++ t) = li s ++ li t := by show (s ++ t).data.toList = _; rw [ByteArray.data_append, Array.toList_append]
theorem li_size (s : ByteArray) : (li s).length = s.size := Array.length_toList
theorem li_extract (s : ByteArray) (a b : Nat) : li (s.extract a b) = ((li s).take b).drop a := by
  simp [li, ByteArray.data_extract, Array.toList_extract, List.drop_take]
theorem bt_li (s : ByteArray) (i : Int) : bt s i = (((li s).getD i.toNat 0).toNat : Int) := rfl
/-- The parts of a list, ahead of each c and behind it. -/
def spl (c : UInt8) : List UInt8 → List (List UInt8)
  | [] => [[]]
  | a :: l => if a = c then [] :: spl c l else match spl c l with
    | [] => [[a]]
    | h :: t => (a :: h) :: t
def glue (x : List UInt8) : List (List UInt8) → List (List UInt8)
  | [] => [x]
  | h :: t => (x ++ h) :: t
theorem spl_ne (c : UInt8) : ∀ l, spl c l ≠ []
  | [] => by rw [spl]; exact List.cons_ne_nil _ _
  | a :: l => by
    rw [spl]; split
    · exact List.cons_ne_nil _ _
    · split <;> exact List.cons_ne_nil _ _
theorem glue_nil {l : List (List UInt8)} (h : l ≠ []) : glue [] l = l := by
  cases l with
  | nil => exact absurd rfl h
  | cons a l => rfl
theorem glue_cons (x : List UInt8) (a c : UInt8) (l : List UInt8) (h : a ≠ c) : glue x (spl c (a :: l)) = glue (x ++ [a]) (spl c l) := by
  rw [spl, if_neg h]
  cases hl : spl c l with
  | nil => exact absurd hl (spl_ne c l)
  | cons b t => simp [glue]
theorem cutFrom_spl (s : ByteArray) (c : UInt8) : ∀ (d i : Nat) (pre : List ByteArray) (x : List UInt8), i + d = s.size →
    cutFrom s (c.toNat : Int) d (pre ++ [ofL x]) i = pre ++ (glue x (spl c ((li s).drop i))).map ofL
  | 0, i, pre, x, h => by
    rw [List.drop_of_length_le (by rw [li_size]; omega)]
    simp [cutFrom, spl, glue]
  | d + 1, i, pre, x, h => by
    have hi : i < (li s).length := by rw [li_size]; omega
    rw [List.drop_eq_getElem_cons hi]
    unfold cutFrom cutStep
    have hb : bt s (i : Int) = (((li s)[i]).toNat : Int) := by
      rw [bt_li, Int.toNat_natCast, List.getD_eq_getElem?_getD, List.getElem?_eq_getElem hi]; rfl
    rw [hb]
    by_cases hc : (li s)[i] = c
    · rw [hc, if_pos (by simp)]
      have := cutFrom_spl s c d (i + 1) (pre ++ [ofL x]) [] (by omega)
      rw [glue_nil (spl_ne _ _)] at this
      rw [this, spl, if_pos rfl]
      simp [glue]
    · have hne : ((((li s)[i]).toNat : Int) == (c.toNat : Int)) = false := by
        rw [beq_eq_false_iff_ne]
        intro h
        exact hc (UInt8.toNat_inj.1 (by omega))
      rw [hne, glue_cons _ _ _ _ hc, ← cutFrom_spl s c d (i + 1) pre (x ++ [(li s)[i]]) (by omega)]
      have hex : s.extract i (i + 1) = ofL [(li s)[i]] := li_inj (by
        show _ = [(li s)[i]]
        rw [li_extract, List.drop_take, show i + 1 - i = 1 by omega, List.drop_eq_getElem_cons hi]; rfl)
      rw [hex, List.length_append, List.length_singleton, Nat.add_sub_cancel]
      simp only [Bool.false_eq_true, if_false]
      rw [List.set_append_right _ _ (Nat.le_refl _), Nat.sub_self, List.getD_eq_getElem?_getD, List.getElem?_append_right (Nat.le_refl _), Nat.sub_self, List.set_cons_zero, List.getElem?_cons_zero, Option.getD_some, ofL_append]
theorem cutAll_spl (s : ByteArray) (c : UInt8) : cutAll s (c.toNat : Int) = (spl c (li s)).map ofL := by
  have := cutFrom_spl s c s.size 0 [] [] (Nat.zero_add _)
  rw [glue_nil (spl_ne _ _), List.drop_zero] at this
  exact this
theorem spl_sum (c : UInt8) : ∀ l, ((spl c l).map List.length).sum + (spl c l).length = l.length + 1
  | [] => rfl
  | a :: l => by
    have ih := spl_sum c l
    rw [spl]
    split
    · simp only [List.map_cons, List.sum_cons, List.length_cons, List.length_nil]; omega
    · cases h : spl c l with
      | nil => exact absurd h (spl_ne c l)
      | cons b t =>
        rw [h] at ih
        simp only [List.map_cons, List.sum_cons, List.length_cons] at ih ⊢; omega
theorem spl_none {c : UInt8} : ∀ {l : List UInt8}, c ∉ l → spl c l = [l]
  | [], _ => rfl
  | a :: l, h => by
    rw [spl, if_neg (fun e => h (by rw [e]; exact List.mem_cons_self)), spl_none (fun e => h (List.mem_cons_of_mem _ e))]
theorem spl_first {c : UInt8} : ∀ {a : List UInt8} (b : List UInt8), c ∉ a → spl c (a ++ c :: b) = a :: spl c b
  | [], b, _ => by rw [List.nil_append, spl, if_pos rfl]
  | x :: a, b, h => by
    rw [List.cons_append, spl, if_neg (fun e => h (by rw [e]; exact List.mem_cons_self)), spl_first b (fun e => h (List.mem_cons_of_mem _ e))]
theorem spl_last {c : UInt8} {b : List UInt8} (h : c ∉ b) : ∀ (a : List UInt8), spl c (a ++ c :: b) = spl c a ++ [b]
  | [] => by
    have e : spl c (c :: b) = [] :: spl c b := by rw [spl, if_pos rfl]
    rw [List.nil_append, e, spl_none h]; rfl
  | x :: a => by
    have e : ∀ l, spl c (x :: l) = if x = c then [] :: spl c l else match spl c l with
      | [] => [[x]]
      | h :: t => (x :: h) :: t := fun l => by rw [spl]
    rw [List.cons_append, e, e, spl_last h a]
    split
    · rfl
    · cases hs : spl c a with
      | nil => exact absurd hs (spl_ne c a)
      | cons y t => rfl
theorem mem_sum {x : List UInt8} : ∀ {l : List (List UInt8)}, x ∈ l → x.length ≤ (l.map List.length).sum
  | y :: l, h => by
    simp only [List.map_cons, List.sum_cons]
    rcases List.mem_cons.1 h with rfl | h
    · omega
    · have := mem_sum h; omega
/-- A part, and what parts it, are no longer than the text. -/
theorem cutAll_room (s : ByteArray) (c : UInt8) (j : Nat) : ((cutAll s (c.toNat : Int)).getD j (ByteArray.mk #[])).size + (cutAll s (c.toNat : Int)).length ≤ s.size + 1 := by
  have h := spl_sum c (li s)
  rw [li_size] at h
  rw [cutAll_spl, List.length_map, List.getD_eq_getElem?_getD, List.getElem?_map]
  cases hj : (spl c (li s))[j]? with
  | none => show (ByteArray.mk #[]).size + _ ≤ _; have : (ByteArray.mk #[]).size = 0 := rfl; omega
  | some x =>
    have := mem_sum (List.mem_of_getElem? hj)
    show (ofL x).size + _ ≤ _
    have hx : (ofL x).size = x.length := (li_size (ofL x)).symm
    omega
/-- Equal texts. -/
theorem eq_of {s t : ByteArray} (h : (s.toList == t.toList) = true) : s = t := by
  rw [beq_iff_eq, ByteArray.toList_eq, ByteArray.toList_eq] at h
  exact li_inj h
theorem eq_iff (s t : ByteArray) : (s.toList == t.toList) = decide (s = t) := by
  cases h : s.toList == t.toList with
  | true => rw [eq_of h]; simp
  | false =>
    symm
    refine decide_eq_false fun e => ?_
    subst e
    simp at h
theorem size_of {s t : ByteArray} (h : (s.toList == t.toList) = true) : s.size = t.size := by rw [eq_of h]
theorem size_or (s t : ByteArray) : (s.toList == t.toList) = false ∨ ((s.toList == t.toList) = true ∧ s.size = t.size) := by
  cases h : s.toList == t.toList with
  | false => exact .inl rfl
  | true => exact .inr ⟨rfl, size_of h⟩
theorem textS_min (tell : List Int → ByteArray) (r : RefT) : r.d.size + 1 + r.p.size ≤ (textS tell r).size := by
  have hz : ∀ a b : ByteArray, (a ++ b).size = a.size + b.size := fun a b => ByteArray.size_append
  unfold textS
  cases isS r.t [] <;> cases r.b <;> simp only [Bool.not_false, Bool.not_true, cond_true, cond_false, hz, sz1] <;> omega
end Go.Proofs.YtofcjkbgieenlaaDoor.PM

/- The program's domains against the reference's. By an AI agent. -/
import Derived.Test.YtofcjkbgieenlaaDoorPlainA
namespace Go.Proofs.YtofcjkbgieenlaaDoor.PM
open Go Go.Proofs Go.Proofs.YtofcjkbgieenlaaDoor.Hand
set_option maxRecDepth 100000
set_option linter.unusedVariables false
set_option linter.unusedSimpArgs false

theorem cutAll_cut (s : ByteArray) (c : UInt8) : cutAll s (c.toNat : Int) = bif cutF s c then cutA s c :: cutAll (cutZ s c) (c.toNat : Int) else [cutA s c] := by
  rw [← splitS_cut, ← splitS_cut]
  have hr := indexByte_le c s.data.toList
  unfold cutF cutA cutZ cutF
  by_cases h : Lib.indexByte s.data.toList c ≥ 0
  · obtain ⟨i, hi⟩ : ∃ i : Nat, Lib.indexByte s.data.toList c = (i : Int) := ⟨(Lib.indexByte s.data.toList c).toNat, by omega⟩
    rw [decide_eq_true h]
    simp only [cond_true]
    rw [splitS_some hi, hi, Int.toNat_natCast]
  · have hn : Lib.indexByte s.data.toList c = -1 := by omega
    rw [decide_eq_false h]
    simp only [cond_false]
    rw [splitS_none hn]
theorem labels_all (l : List ByteArray) : ∀ d i, i + d = l.length → labels l d i = (l.drop i).all fun x => !badLabel x
  | 0, i, h => by rw [List.drop_of_length_le (by omega)]; rfl
  | d + 1, i, h => by
    have hi : i < l.length := by omega
    unfold labels
    rw [labels_all l d (i + 1) (by omega), List.drop_eq_getElem_cons hi, List.all_cons, List.getD_eq_getElem?_getD, List.getElem?_eq_getElem hi, Option.getD_some]
    cases badLabel l[i] <;> rfl
theorem pathAll_all (l : List ByteArray) : ∀ d i, i + d = l.length → pathAll l d i = (l.drop i).all partS
  | 0, i, h => by rw [List.drop_of_length_le (by omega)]; rfl
  | d + 1, i, h => by
    have hi : i < l.length := by omega
    unfold pathAll
    rw [pathAll_all l d (i + 1) (by omega), List.drop_eq_getElem_cons hi, List.all_cons, List.getD_eq_getElem?_getD, List.getElem?_eq_getElem hi, Option.getD_some]
    cases partS l[i] <;> rfl
theorem dropWhile_nil {p : UInt8 → Bool} {l : List UInt8} : l.dropWhile p = [] ↔ ∀ x ∈ l, p x = true := by
  induction l with
  | nil => simp
  | cons a l ih =>
    rw [List.dropWhile_cons]
    cases h : p a with
    | true => simp [ih, h]
    | false => simp [h]
theorem trimS_nil (l cs : List UInt8) : Lib.trimS l cs = [] ↔ ∀ x ∈ l, cs.contains x = true := by
  unfold Lib.trimS Lib.trimLeftS
  rw [dropWhile_nil]
  unfold Lib.trimRightS
  have e : l = ((l.reverse.dropWhile (cs.contains ·)).reverse) ++ ((l.reverse.takeWhile (cs.contains ·)).reverse) := by
    rw [← List.reverse_append, List.takeWhile_append_dropWhile, List.reverse_reverse]
  constructor
  · intro h x hx
    rw [e] at hx
    rcases List.mem_append.1 hx with hx | hx
    · exact h x hx
    · rw [List.mem_reverse] at hx
      exact (List.all_eq_true.1 List.all_takeWhile) x hx
  · intro h x hx
    exact h x (by rw [e]; exact List.mem_append_left _ hx)
theorem ten_cls : ((List.range 256).all fun n => digits10.data.toList.contains (UInt8.ofNat n) == digitB n) = true := by kernel_rfl
theorem ten_byte (b : UInt8) : digits10.data.toList.contains b = digitB (b.toNat : Int) := by
  have := beq_iff_eq.1 (List.all_eq_true.1 ten_cls b.toNat (List.mem_range.2 b.toNat_lt))
  simpa using this
theorem ofS_bytes {T : ByteArray} {p : Int → Bool} (h : ((List.range 256).all fun n => someOf T (n : Int) 0 T.size == p n) = true) (s : ByteArray) : ofS s T = true ↔ ∀ b ∈ li s, p (b.toNat : Int) = true := by
  rw [ofS_iff]
  constructor
  · intro hs b hb
    obtain ⟨j, hj, e⟩ := List.getElem_of_mem hb
    have := hs j (by rw [← li_size]; exact hj)
    rw [cls h, bt_li, Int.toNat_natCast, List.getD_eq_getElem?_getD, List.getElem?_eq_getElem hj, Option.getD_some, e] at this
    exact this
  · intro hs j hj
    have hj' : j < (li s).length := by rw [li_size]; exact hj
    rw [cls h, bt_li, Int.toNat_natCast, List.getD_eq_getElem?_getD, List.getElem?_eq_getElem hj', Option.getD_some]
    exact hs _ (List.getElem_mem hj')
theorem isS_nil (s : ByteArray) : isS s [] = true ↔ li s = [] := by
  rw [show isS s [] = (s.toList == (ByteArray.mk #[]).toList) from rfl, toList_empty, beq_iff_eq, ← li_size, List.length_eq_zero_iff]
theorem portS_ref (z : ByteArray) : portS z = !(isS z [] || (decide ((z.size : Int) > 5) || !ofS z tenT)) := by
  have h1 : isS ⟨(Lib.trimS z.data.toList digits10.data.toList).toArray⟩ [] = ofS z tenT := by
    rw [Bool.eq_iff_iff, isS_nil, ofS_bytes tenT_cls]
    show Lib.trimS (li z) digits10.data.toList = [] ↔ _
    rw [trimS_nil]
    constructor
    · intro h b hb; rw [← ten_byte]; exact h b hb
    · intro h b hb; rw [ten_byte]; exact h b hb
  have h2 : isS z [] = !decide ((z.size : Int) ≥ 1) := by
    rw [show isS z [] = (z.toList == (ByteArray.mk #[]).toList) from rfl, toList_empty]
    by_cases h : z.size = 0
    · rw [h]; rfl
    · rw [beq_eq_false_iff_ne.2 h, decide_eq_true (by omega)]; rfl
  unfold portS
  rw [h1, h2]
  by_cases h : (z.size : Int) ≤ 5
  · rw [decide_eq_true h, decide_eq_false (by omega : ¬ (z.size : Int) > 5)]
    cases decide ((z.size : Int) ≥ 1) <;> cases ofS z tenT <;> rfl
  · rw [decide_eq_false h, decide_eq_true (by omega : (z.size : Int) > 5)]
    cases decide ((z.size : Int) ≥ 1) <;> cases ofS z tenT <;> rfl
theorem cutF_mem {s : ByteArray} {c : UInt8} (h : cutF s c = true) : c ∈ li s := by
  unfold cutF at h
  have h := of_decide_eq_true h
  have key : ∀ l : List UInt8, Lib.indexByte l c ≥ 0 → c ∈ l := fun l => by
    induction l with
    | nil => intro h; simp [Lib.indexByte] at h
    | cons a l ih =>
      intro h
      have e : Lib.indexByte (a :: l) c = if a == c then 0 else if Lib.indexByte l c == -1 then -1 else Lib.indexByte l c + 1 := rfl
      rw [e] at h
      have hr := indexByte_le c l
      cases ha : a == c with
      | true => rw [beq_iff_eq.1 ha]; exact List.mem_cons_self
      | false =>
        rw [ha] at h
        simp only [Bool.false_eq_true, if_false] at h
        by_cases hn : Lib.indexByte l c = -1
        · rw [hn] at h; simp at h
        · exact List.mem_cons_of_mem _ (ih (by omega))
  exact key _ h
theorem cutA_none {s : ByteArray} {c : UInt8} (h : cutF s c = false) : cutA s c = s := by
  unfold cutA
  rw [h]
  rfl
theorem domain_same (s : ByteArray) : domainPS s = domainS s := by
  have e := cutAll_cut s 58
  have hlab : ∀ x : ByteArray, labels (cutAll x 46) (cutAll x 46).length 0 = (splitS 46 x).all labelB := fun x => by
    rw [labels_all _ _ _ (Nat.zero_add _), List.drop_zero, splitS_cut 46 x]
    congr 1
    funext y
    rw [labelB_bad]
  unfold domainPS domainS
  rw [show ((58 : UInt8).toNat : Int) = 58 from rfl] at e
  rw [e]
  cases hf : cutF s 58 with
  | false =>
    simp only [cond_false, Bool.false_and, List.length_singleton, List.getD_cons_zero]
    rw [hlab]
    rfl
  | true =>
    have e2 := cutAll_cut (cutZ s 58) 58
    rw [show ((58 : UInt8).toNat : Int) = 58 from rfl] at e2
    simp only [cond_true, Bool.true_and, List.length_cons, List.getD_cons_zero, List.getD_cons_succ]
    rw [hlab, portS_ref, e2]
    cases hg : cutF (cutZ s 58) 58 with
    | false =>
      rw [cutA_none hg]
      simp only [cond_false, List.length_singleton, List.getD_cons_zero, Bool.not_not]
      rfl
    | true =>
      have hlen := (cutAll_len (cutZ (cutZ s 58) 58) 58).1
      have hbad : ofS (cutZ s 58) tenT = false := by
        cases h : ofS (cutZ s 58) tenT with
        | false => rfl
        | true => exact absurd ((ofS_bytes tenT_cls _).1 h 58 (cutF_mem hg)) (by decide)
      rw [hbad]
      simp only [cond_true, List.length_cons, Bool.not_false, Bool.or_true, Bool.not_true]
      rw [decide_eq_true (by omega : (((cutAll (cutZ (cutZ s 58) 58) 58).length + 1 + 1 : Nat) : Int) > 2)]
      rfl
end Go.Proofs.YtofcjkbgieenlaaDoor.PM

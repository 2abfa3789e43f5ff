/-
  Clean paths: what the law's own look at them comes to; what Clean tells is clean. By an AI agent.
-/
import Derived.Test.YtoklancgpmnhcaaDoorPathsEv2
namespace Go.Proofs.YtoklancgpmnhcaaDoor.Hand
open Go Go.RowKit Go.Proofs.YtoklancgpmnhcaaDoor.PAll Go.Proofs.YtoklancgpmnhcaaDoorW.PrintWords Go.Proofs.YtoklancgpmnhcaaDoorW.PrintLast

def Good (x : List UInt8) : Prop := x ≠ [] ∧ x ≠ [46] ∧ x ≠ [46, 46] ∧ (0 : UInt8) ∉ x
instance (x : List UInt8) : Decidable (Good x) := by unfold Good; infer_instance
def IsClean (l : List UInt8) : Prop := l = [] ∨ ((∀ x ∈ splitB 47 l, Good x) ∧ l.length ≤ 200)
instance (l : List UInt8) : Decidable (IsClean l) := by unfold IsClean; infer_instance

theorem seg_data (p : ByteArray) (a b : Nat) : (p.extract a b).toList = (p.data.toList.drop a).take (b - a) := by
  rw [ByteArray.toList_eq, Lib.extract_data]
theorem lawClean_ev (p : ByteArray) (hz : p.size ≤ 1000000) : ∀ (d i fr : Nat), i + d = p.size → fr ≤ i → (∀ x ∈ (p.data.toList.drop fr).take (i - fr), x ≠ 47 ∧ x ≠ 0) →
    Ev (fun k => lighterlaw14_clean.l0 k p (fr : Int) (i : Int)) (decide ((∀ x ∈ splitB 47 (p.data.toList.drop fr), Good x) ∧ p.size ≤ 200))
  | 0, i, fr, hi, hf, hs => by
    have hl := size_data p
    have hall : (p.data.toList.drop fr).take (i - fr) = p.data.toList.drop fr := List.take_of_length_le (by rw [List.length_drop]; omega)
    rw [hall] at hs
    have hsp : splitB 47 (p.data.toList.drop fr) = [p.data.toList.drop fr] := splitB_not_mem fun h => (hs 47 h).1 rfl
    rw [hsp]
    refine Ev.step (fun _ => rfl) ?_
    refine ev_pos (by omega) (ev_neg (by omega) ?_)
    refine Ev.step (f := fun k => if (i : Int) < (p.size : Int) then (if 0 ≤ (i : Int) then (lighterlaw14_clean.j2 k p fr i ((bt p i) != 47)) else none) else (lighterlaw14_clean.j2 k p fr i false)) (fun _ => rfl) ?_
    refine ev_neg (by omega) ?_
    generalize hb : false = b
    refine Ev.step (fun _ => rfl) ?_
    refine ev_neg (by simp [← hb]) ?_
    subst hb
    have hseg : (p.extract (fr : Int).toNat (i : Int).toNat).toList = p.data.toList.drop fr := (seg_data p fr i).trans hall
    by_cases e0 : i = fr
    · refine ev_pos (by omega) (ev_eq (congrArg some ?_))
      rw [eq_comm, decide_eq_false_iff_not]
      intro h
      exact (h.1 _ (List.mem_singleton.2 rfl)).1 (List.drop_eq_nil_of_le (by omega))
    refine ev_neg (by omega) (ev_pos (by omega) (ev_pos (by omega) (ev_pos (by omega) ?_)))
    by_cases e1 : p.data.toList.drop fr = [46]
    · refine ev_pos (hseg.trans e1) (ev_eq (congrArg some ?_))
      rw [eq_comm, decide_eq_false_iff_not]
      intro h
      exact (h.1 _ (List.mem_singleton.2 rfl)).2.1 e1
    refine ev_neg (fun h => e1 (hseg.symm.trans h)) ?_
    by_cases e2 : p.data.toList.drop fr = [46, 46]
    · refine ev_pos (hseg.trans e2) (ev_eq (congrArg some ?_))
      rw [eq_comm, decide_eq_false_iff_not]
      intro h
      exact (h.1 _ (List.mem_singleton.2 rfl)).2.2.1 e2
    refine ev_neg (fun h => e2 (hseg.symm.trans h)) ?_
    have ew : wrap64 ((i : Int) + 1) = ((i + 1 : Nat) : Int) := by rw [wrap_id (by omega) (by omega)]; omega
    simp only [ew]
    refine Ev.step (fun _ => rfl) ?_
    refine ev_neg (by omega) (ev_eq (congrArg some ?_))
    rw [decide_eq_decide]
    have hg : ∀ x ∈ [p.data.toList.drop fr], Good x := by
      intro x hx
      rw [List.mem_singleton.1 hx]
      refine ⟨fun h => ?_, e1, e2, fun h => (hs 0 h).2 rfl⟩
      have := congrArg List.length h
      rw [List.length_drop, List.length_nil] at this
      omega
    exact ⟨fun h => ⟨hg, by omega⟩, fun h => by have := h.2; omega⟩
  | d + 1, i, fr, hi, hf, hs => by
    have hl := size_data p
    have hlt : i < p.data.toList.length := by omega
    have ew : wrap64 ((i : Int) + 1) = ((i + 1 : Nat) : Int) := by rw [wrap_id (by omega) (by omega)]; omega
    have hx : p.data.toList[i]? = some p.data.toList[i] := List.getElem?_eq_getElem hlt
    generalize hxx : p.data.toList[i] = x at hx
    have hsplit : p.data.toList.drop fr = (p.data.toList.drop fr).take (i - fr) ++ x :: p.data.toList.drop (i + 1) := by
      have h1 := (List.take_append_drop (i - fr) (p.data.toList.drop fr)).symm
      rw [List.drop_drop, show fr + (i - fr) = i by omega, List.drop_eq_getElem_cons hlt, hxx] at h1
      exact h1
    refine Ev.step (fun _ => rfl) ?_
    refine ev_pos (by omega) (ev_pos (by omega) (ev_pos (by omega) ?_))
    rw [bt_nat hx]
    by_cases e0 : x = 0
    · rw [show (((x.toNat : Nat) : Int) == 0) = true by rw [e0]; rfl]
      refine Ev.step (f := fun _ => some false) (fun _ => rfl) (ev_eq (congrArg some ?_))
      rw [eq_comm, decide_eq_false_iff_not]
      intro h
      rw [hsplit] at h
      -- the part that begins at fr holds the byte 0
      have : ∀ (a b : List UInt8), (∀ y ∈ a, y ≠ 47 ∧ y ≠ 0) → ∃ q ∈ splitB 47 (a ++ (0 : UInt8) :: b), (0 : UInt8) ∈ q := by
        intro a
        induction a with
        | nil =>
          intro b _
          rw [List.nil_append, splitB, if_neg (by decide)]
          cases hq : splitB 47 b with
          | nil => exact absurd hq (splitB_ne _ _)
          | cons y t => exact ⟨0 :: y, by simp, by simp⟩
        | cons y a ih =>
          intro b hy
          obtain ⟨q, hq, h0⟩ := ih b (fun z hz => hy z (by simp [hz]))
          rw [List.cons_append, splitB, if_neg (hy y (by simp)).1]
          cases hq2 : splitB 47 (a ++ (0 : UInt8) :: b) with
          | nil => exact absurd hq2 (splitB_ne _ _)
          | cons u t =>
            rw [hq2] at hq
            rcases List.mem_cons.1 hq with rfl | hq
            · exact ⟨y :: q, by simp, by simp [h0]⟩
            · exact ⟨q, by simp [hq], h0⟩
      obtain ⟨q, hq, h0⟩ := this _ (p.data.toList.drop (i + 1)) hs
      rw [← e0] at hq
      exact (h.1 q hq).2.2.2 h0
    rw [show (((x.toNat : Nat) : Int) == 0) = false by
      rw [beq_eq_false_iff_ne]
      exact fun h => e0 ((u8_eq (y := 0)).1 h)]
    generalize hb : false = b
    refine Ev.step (fun _ => rfl) ?_
    refine ev_neg (by simp [← hb]) (ev_pos (by omega) (ev_pos (by omega) ?_))
    rw [bt_nat hx]
    subst hb
    by_cases e1 : x = 47
    · rw [show (((x.toNat : Nat) : Int) != 47) = false by rw [e1]; rfl]
      generalize hb : false = b
      refine Ev.step (fun _ => rfl) ?_
      refine ev_neg (by simp [← hb]) ?_
      subst hb
      simp only [ew]
      have hseg : (p.extract (fr : Int).toNat (i : Int).toNat).toList = (p.data.toList.drop fr).take (i - fr) := seg_data p fr i
      have hlen : ((p.data.toList.drop fr).take (i - fr)).length = i - fr := by rw [List.length_take, List.length_drop]; omega
      generalize hsg : (p.data.toList.drop fr).take (i - fr) = seg at *
      have hnm : (47 : UInt8) ∉ seg := fun h => (hs 47 h).1 rfl
      have hsp : splitB 47 (p.data.toList.drop fr) = seg :: splitB 47 (p.data.toList.drop (i + 1)) := by
        rw [hsplit, e1, splitB_append, splitB_not_mem hnm]
        rfl
      rw [hsp]
      have hbad : ¬ Good seg → ¬ ((∀ x ∈ seg :: splitB 47 (p.data.toList.drop (i + 1)), Good x) ∧ p.size ≤ 200) := fun h h2 => h (h2.1 seg (by simp))
      by_cases e2 : i = fr
      · refine ev_pos (by omega) (ev_eq (congrArg some (decide_eq_false (hbad fun h => h.1 (List.eq_nil_of_length_eq_zero (by omega)))).symm))
      refine ev_neg (by omega) (ev_pos (by omega) (ev_pos (by omega) (ev_pos (by omega) ?_)))
      by_cases e3 : seg = [46]
      · exact ev_pos (hseg.trans e3) (ev_eq (congrArg some (decide_eq_false (hbad fun h => h.2.1 e3)).symm))
      refine ev_neg (fun h => e3 (hseg.symm.trans h)) ?_
      by_cases e4 : seg = [46, 46]
      · exact ev_pos (hseg.trans e4) (ev_eq (congrArg some (decide_eq_false (hbad fun h => h.2.2.1 e4)).symm))
      refine ev_neg (fun h => e4 (hseg.symm.trans h)) ?_
      have hg : Good seg := ⟨fun h => by rw [h] at hlen; simp at hlen; omega, e3, e4, fun h => (hs 0 h).2 rfl⟩
      have ih := lawClean_ev p hz d (i + 1) (i + 1) (by omega) (Nat.le_refl _) (by simp)
      have hd : ((∀ x ∈ seg :: splitB 47 (p.data.toList.drop (i + 1)), Good x) ∧ p.size ≤ 200) ↔ ((∀ x ∈ splitB 47 (p.data.toList.drop (i + 1)), Good x) ∧ p.size ≤ 200) := by
        constructor
        · exact fun h => ⟨fun x hx => h.1 x (by simp [hx]), h.2⟩
        · refine fun h => ⟨fun x hx => ?_, h.2⟩
          rcases List.mem_cons.1 hx with rfl | hx
          · exact hg
          · exact h.1 x hx
      rw [decide_eq_decide.2 hd]
      exact ih
    · rw [show (((x.toNat : Nat) : Int) != 47) = true by
        rw [bne_iff_ne]
        exact fun h => e1 ((u8_eq (y := 47)).1 h)]
      refine Ev.step (f := fun k => lighterlaw14_clean.l0 k p fr (wrap64 ((i : Int) + 1))) (fun _ => rfl) ?_
      simp only [ew]
      refine lawClean_ev p hz d (i + 1) fr (by omega) (by omega) ?_
      intro y hy
      have : (p.data.toList.drop fr).take (i + 1 - fr) = (p.data.toList.drop fr).take (i - fr) ++ [x] := by
        rw [show i + 1 - fr = (i - fr) + 1 by omega, List.take_add_one, List.getElem?_drop, show fr + (i - fr) = i by omega, hx]
        rfl
      rw [this] at hy
      rcases List.mem_append.1 hy with hy | hy
      · exact hs y hy
      · rw [List.mem_singleton.1 hy]
        exact ⟨e1, e0⟩
theorem lawClean_f (p : ByteArray) (hz : p.size ≤ 1000000) : Ev (fun k => lighterlaw14_clean.f k p) (decide (IsClean p.data.toList)) := by
  unfold lighterlaw14_clean.f IsClean
  rw [ByteArray.toList_eq]
  by_cases h : p.data.toList = []
  · exact ev_pos h (ev_eq (by simp [h]))
  · refine ev_neg h ?_
    have := lawClean_ev p hz p.size 0 0 (by omega) (by omega) (by simp)
    rw [List.drop_zero, size_data] at this
    have e : decide (p.data.toList = [] ∨ (∀ x ∈ splitB 47 p.data.toList, Good x) ∧ p.data.toList.length ≤ 200) = decide ((∀ x ∈ splitB 47 p.data.toList, Good x) ∧ p.data.toList.length ≤ 200) := by
      rw [decide_eq_decide]
      exact ⟨fun h2 => h2.elim (fun h3 => absurd h3 h) id, .inr⟩
    rw [e]
    exact this

/-! ### What Clean tells -/
theorem cleanStep_good {st : List ByteArray} {x : ByteArray} (h : Good x.data.toList) : cleanStep st x = some (st ++ [x]) := by
  have h3 : ¬ 0 ≤ Lib.indexByte x.data.toList 0 := fun g => h.2.2.2 ((nought_index _).1 g)
  unfold cleanStep
  rw [ByteArray.toList_eq, if_neg h.1, if_neg h.2.1, if_neg h.2.2.1, if_neg h3]
theorem cleanAll_good : ∀ (xs st : List ByteArray), (∀ x ∈ xs, Good x.data.toList) → xs.foldlM cleanStep st = some (st ++ xs)
  | [], st, _ => by simp
  | x :: xs, st, h => by
    rw [List.foldlM_cons, cleanStep_good (h x (by simp))]
    show xs.foldlM cleanStep (st ++ [x]) = _
    rw [cleanAll_good xs (st ++ [x]) (fun y hy => h y (by simp [hy])), List.append_assoc]
    rfl
theorem map_bs_data (l : List (List UInt8)) : (l.map bs).map (·.data.toList) = l := by simp [Function.comp_def, bs]
theorem cleanOf_clean {p : ByteArray} (h : IsClean p.data.toList) : cleanOf p = (p, 0) := by
  rw [cleanOf_fin]
  rcases h with h | ⟨h, hl⟩
  · have hp : p = bs [] := bs_eq h
    rw [hp]
    decide +kernel
  · have h1 : cleanAll (splitS 47 p) = some (splitS 47 p) := by
      unfold cleanAll
      rw [cleanAll_good _ [] (fun x hx => by
        obtain ⟨q, hq, rfl⟩ := List.mem_map.1 hx
        rw [bs_data]
        exact h q hq)]
      rfl
    have h2 : slashed (splitS 47 p) = p := by
      unfold splitS
      rw [slashed_eq, join_splitB, bs_of]
    rw [h1]
    show (if (slashed (splitS 47 p)).size > 200 then _ else _) = _
    rw [h2, if_neg (by rw [size_data]; omega)]
theorem cleanStep_keep {st m : List ByteArray} {x : ByteArray} (h : cleanStep st x = some m) (hst : ∀ y ∈ st, Good y.data.toList) : ∀ y ∈ m, Good y.data.toList := by
  unfold cleanStep at h
  rw [ByteArray.toList_eq] at h
  split at h
  · cases h; exact hst
  · rename_i h0
    split at h
    · cases h; exact hst
    · rename_i h1
      split at h
      · split at h
        · cases h
        · cases h
          exact fun y hy => hst y (List.mem_of_mem_take hy)
      · rename_i h2
        split at h
        · cases h
        · rename_i h3
          cases h
          intro y hy
          rcases List.mem_append.1 hy with hy | hy
          · exact hst y hy
          · rw [List.mem_singleton.1 hy]
            exact ⟨h0, h1, h2, fun g => h3 ((nought_index _).2 g)⟩
theorem cleanAll_keep (xs l : List ByteArray) (h : cleanAll xs = some l) : ∀ y ∈ l, Good y.data.toList := by
  revert l
  induction xs using List.reverseRecOn' with
  | nil => intro l h; cases h; simp
  | append_singleton xs x ih =>
    intro l h
    rw [cleanAll_snoc] at h
    obtain ⟨m, hm, hs⟩ := Option.bind_eq_some_iff.1 h
    exact cleanStep_keep hs (ih m hm)
/-- Clean's answer: refused with nothing, or a clean path. -/
theorem cleanOf_cases (p : ByteArray) : ((cleanOf p).2 = 0 ∧ IsClean (cleanOf p).1.data.toList) ∨ ((cleanOf p).2 ≠ 0 ∧ (cleanOf p).1 = ⟨#[]⟩ ∧ ¬ IsClean p.data.toList ∧ ((cleanOf p).2 = 3 ∨ (cleanOf p).2 = 71)) := by
  by_cases hc : IsClean p.data.toList
  · rw [cleanOf_clean hc]
    exact .inl ⟨rfl, hc⟩
  rw [cleanOf_fin]
  cases h : cleanAll (splitS 47 p) with
  | none => exact .inr ⟨by show (71 : Int) ≠ 0; decide, rfl, hc, .inr rfl⟩
  | some l =>
    show ((if (slashed l).size > 200 then _ else _ : ByteArray × Int).2 = 0 ∧ _) ∨ _
    by_cases h2 : (slashed l).size > 200
    · refine .inr ?_
      show (if (slashed l).size > 200 then _ else _ : ByteArray × Int).2 ≠ 0 ∧ (if (slashed l).size > 200 then _ else _ : ByteArray × Int).1 = _ ∧ _ ∧ ((if (slashed l).size > 200 then _ else _ : ByteArray × Int).2 = 3 ∨ _)
      rw [if_pos h2]
      exact ⟨by decide, rfl, hc, .inl rfl⟩
    · refine .inl ?_
      show (if (slashed l).size > 200 then _ else _ : ByteArray × Int).2 = 0 ∧ IsClean (if (slashed l).size > 200 then _ else _ : ByteArray × Int).1.data.toList
      rw [if_neg h2]
      refine ⟨rfl, ?_⟩
      show IsClean (slashed l).data.toList
      have hg := cleanAll_keep _ l h
      have hm := (cleanAll_spec _ l h).2
      have hsd : (slashed l).data.toList = Lib.join (l.map (·.data.toList)) [47] := by simp [slashed]
      by_cases hl : l = []
      · left; rw [hsd, hl]; rfl
      · right
        refine ⟨?_, by rw [← size_data]; omega⟩
        rw [hsd, splitB_join (by simpa using hl) (fun x hx => by
          obtain ⟨y, hy, rfl⟩ := List.mem_map.1 hx
          obtain ⟨q, hq, rfl⟩ := List.mem_map.1 (hm y hy)
          rw [bs_data]
          exact mem_splitB hq)]
        intro x hx
        obtain ⟨y, hy, rfl⟩ := List.mem_map.1 hx
        exact hg y hy
end Go.Proofs.YtoklancgpmnhcaaDoor.Hand

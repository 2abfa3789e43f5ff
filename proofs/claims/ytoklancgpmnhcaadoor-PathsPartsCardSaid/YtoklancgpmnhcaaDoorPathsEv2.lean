/-
  The reference's Clean and Whiteout, Join, Inside, and the chapter's examples; the law PathsTell. By an AI agent.
-/
import Derived.Test.YtoklancgpmnhcaaDoorPathsEv
namespace Go.Proofs.YtoklancgpmnhcaaDoor.Hand
open Go Go.RowKit Go.Proofs.YtoklancgpmnhcaaDoor.PAll Go.Proofs.YtoklancgpmnhcaaDoorW.PrintWords Go.Proofs.YtoklancgpmnhcaaDoorW.PrintLast

def fin (o : Option (List ByteArray)) : ByteArray × Int :=
  match o with
  | none => (⟨#[]⟩, 71)
  | some l => if (slashed l).size > 200 then (⟨#[]⟩, 3) else (slashed l, 0)
theorem cleanOf_fin (p : ByteArray) : cleanOf p = fin (cleanAll (splitS 47 p)) := rfl

theorem refClean_ev (xs : List ByteArray) (hl : xs.length ≤ 1000001) (hx : ∀ x ∈ xs, x.size ≤ 1000000) : ∀ (d i : Nat) (st : List ByteArray), i + d = xs.length → st.length ≤ i → (∀ y ∈ st, y.size ≤ 1000000) →
    Ev (fun k => lighterref14_Clean.l0 k xs st (i : Int)) (fin ((xs.drop i).foldlM cleanStep st))
  | 0, i, st, hi, hst, hy => by
    refine Ev.step (fun _ => rfl) ?_
    refine ev_neg (by omega) ?_
    rw [List.drop_eq_nil_of_le (by omega)]
    refine Ev.bind (joined_f st (by omega) hy) ?_
    rw [show fin (List.foldlM cleanStep st []) = (if (slashed st).size > 200 then (⟨#[]⟩, 3) else (slashed st, 0)) from rfl]
    by_cases h : (slashed st).size > 200
    · rw [if_pos h]
      exact ev_pos (by omega) (Ev.now _)
    · rw [if_neg h]
      exact ev_neg (by omega) (Ev.now _)
  | d + 1, i, st, hi, hst, hy => by
    refine Ev.step (fun _ => rfl) ?_
    have hlt : i < xs.length := by omega
    have ew : wrap64 ((i : Int) + 1) = ((i + 1 : Nat) : Int) := by rw [wrap_id (by omega) (by omega)]; omega
    have er : rdOf ByteArray.empty xs (i : Int) = xs[i] := by unfold rdOf; simp [hlt]
    have hxi : xs[i].size ≤ 1000000 := hx _ (List.getElem_mem _)
    have ih := fun st h1 h2 => refClean_ev xs hl hx d (i + 1) st (by omega) h1 h2
    rw [List.drop_eq_getElem_cons hlt, List.foldlM_cons]
    refine ev_pos (by omega) (ev_pos (by omega) ?_)
    simp only [er]
    by_cases e0 : xs[i].toList = []
    · refine ev_pos e0 ?_
      refine Ev.step (f := fun k => lighterref14_Clean.l0 k xs st (wrap64 ((i : Int) + 1))) (fun _ => rfl) ?_
      simp only [ew]
      rw [show cleanStep st xs[i] = some st from by simp [cleanStep, e0]]
      exact ih st (by omega) hy
    · refine ev_neg e0 ?_
      refine Ev.step (fun _ => rfl) ?_
      by_cases e1 : xs[i].toList = [46]
      · refine ev_pos (by simp [e1]) ?_
        simp only [ew]
        rw [show cleanStep st xs[i] = some st from by simp [cleanStep, e1]]
        exact ih st (by omega) hy
      · refine ev_neg (by simp [e1]) (ev_pos (by omega) (ev_pos (by omega) ?_))
        simp only [er]
        refine Ev.bind (nought_f _ hxi) ?_
        by_cases e2 : xs[i].toList = [46, 46]
        · have hn : (0 : UInt8) ∉ xs[i].data.toList := by rw [← ByteArray.toList_eq, e2]; decide
          refine ev_neg (by simp [hn]) (ev_pos e2 ?_)
          refine Ev.step (fun _ => rfl) ?_
          by_cases es : st = []
          · refine ev_pos (by simp [es]) ?_
            rw [show cleanStep st xs[i] = none from by simp [cleanStep, e2, es]]
            exact Ev.now _
          · have hpos : 0 < st.length := List.length_pos_iff.2 es
            have e3 : wrap64 ((st.length : Int) - 1) = ((st.length - 1 : Nat) : Int) := by rw [wrap_id (by omega) (by omega)]; omega
            refine ev_neg (by simp; omega) (ev_pos (by omega) (ev_pos (by omega) ?_))
            simp only [er, e3, ew]
            refine ev_pos e2 (ev_pos (by omega) (ev_pos (by omega) ?_))
            refine Ev.bind (Ev.now _) (ev_pos (by simp; omega) ?_)
            rw [show cleanStep st xs[i] = some (st.take (st.length - 1)) from by simp [cleanStep, e2, es]]
            exact ih (st.take (st.length - 1)) (by simp; omega) (fun y h => hy y (List.mem_of_mem_take h))
        · by_cases e3 : (0 : UInt8) ∈ xs[i].data.toList
          · refine ev_pos (by simp [e3]) ?_
            refine Ev.step (f := fun _ => some ((⟨#[]⟩ : ByteArray), 71)) (fun _ => rfl) ?_
            rw [show cleanStep st xs[i] = none from by
              have := (nought_index xs[i].data.toList).2 e3
              simp [cleanStep, e0, e1, e2, this]]
            exact Ev.now _
          · refine ev_neg (by simp [e3]) (ev_neg e2 ?_)
            generalize hb : false = b
            refine Ev.step (fun _ => rfl) ?_
            refine ev_neg (by simp [← hb]) (ev_pos (by omega) (ev_pos (by omega) ?_))
            simp only [er, ew]
            refine ev_neg e2 (ev_pos (by omega) ?_)
            rw [show cleanStep st xs[i] = some (st ++ [xs[i]]) from by
              have : ¬ 0 ≤ Lib.indexByte xs[i].data.toList 0 := fun h => e3 ((nought_index xs[i].data.toList).1 h)
              simp [cleanStep, e0, e1, e2, this]]
            refine ih (st ++ [xs[i]]) (by simp; omega) (fun y h => ?_)
            rcases List.mem_append.1 h with h | h
            · exact hy y h
            · rw [List.mem_singleton.1 h]; exact hxi
theorem splitS_size {p x : ByteArray} (h : x ∈ splitS 47 p) : x.size ≤ p.size := by
  obtain ⟨q, hq, rfl⟩ := List.mem_map.1 h
  have := splitB_mem_length 47 _ q hq
  rw [bs_size, size_data]
  exact this
theorem splitS_length (p : ByteArray) : (splitS 47 p).length ≤ p.size + 1 := by
  have := splitB_length 47 p.data.toList
  rw [size_data]
  simpa [splitS] using this
theorem refClean_f (p : ByteArray) (hz : p.size ≤ 1000000) : Ev (fun k => lighterref14_Clean.f k p) (cleanOf p) := by
  have h1 := splitS_length p
  exact Ev.bind (parts_f p hz) (refClean_ev (splitS 47 p) (by omega) (fun x hx => by have := splitS_size hx; omega) (splitS 47 p).length 0 [] (by omega) (by simp) (by simp))
theorem clean_f {p : ByteArray} (hz : p.size ≤ 1000000) : Hand.paths_Clean.f p = some (cleanOf p) := if_pos hz
theorem cleanOf_size (p : ByteArray) : (cleanOf p).1.size ≤ 200 := by
  rw [cleanOf_fin]
  unfold fin
  split
  · decide
  · split
    · decide
    · show (slashed _).size ≤ 200
      omega

/-! ### Whiteout -/
theorem take_data (p : ByteArray) (n : Nat) : (p.extract 0 n).toList = p.data.toList.take n := by
  rw [ByteArray.toList_eq, Lib.extract_data]; simp
theorem drop_data (p : ByteArray) (n : Nat) : (p.extract n p.size).toList = p.data.toList.drop n := by
  rw [ByteArray.toList_eq, Lib.extract_to_end]
theorem hasPrefix_eq (a b : ByteArray) : strings_HasPrefix.f a b = some (decide (b.data.toList <+: a.data.toList)) := by
  unfold strings_HasPrefix.f stringslite_HasPrefix.f
  by_cases h : b.size ≤ a.size
  · rw [if_pos (by omega), if_pos (by omega), if_pos (by omega)]
    simp only [Int.toNat_natCast, Option.bind_some]
    refine congrArg some ?_
    rw [take_data, ByteArray.toList_eq b, Bool.eq_iff_iff, beq_iff_eq, decide_eq_true_iff, List.prefix_iff_eq_take, size_data]
    exact eq_comm
  · rw [if_neg (by omega)]
    refine congrArg some ?_
    rw [eq_comm, decide_eq_false_iff_not]
    intro hp
    have := hp.length_le
    rw [← size_data, ← size_data] at this
    exact h this
theorem cutPrefix_eq (a b : ByteArray) : strings_CutPrefix.f a b = if b.data.toList <+: a.data.toList then some (a.extract b.size a.size, true) else some (a, false) := by
  have h := hasPrefix_eq a b
  unfold strings_HasPrefix.f at h
  rw [Option.bind_fun_some] at h
  unfold strings_CutPrefix.f stringslite_CutPrefix.f
  rw [h]
  simp only [Option.bind_some]
  by_cases hp : b.data.toList <+: a.data.toList
  · have hle := hp.length_le
    rw [← size_data, ← size_data] at hle
    rw [if_pos (by simpa using hp), if_pos (by omega), if_pos (by omega), if_pos hp]
    simp
  · rw [if_neg (by simpa using hp), if_neg hp]
    simp
/-- What a name takes away. -/
def whiteOf (l : List UInt8) : ByteArray × Bool × Bool :=
  if l = [46, 119, 104, 46, 46, 119, 104, 46, 46, 111, 112, 113] then (⟨#[]⟩, true, true)
  else if ([46, 119, 104, 46] : List UInt8) <+: l ∧ l.drop 4 ≠ [] ∧ l.drop 4 ≠ [46] ∧ l.drop 4 ≠ [46, 46] ∧ ¬ ([46, 119, 104, 46] : List UInt8) <+: l.drop 4 then (bs (l.drop 4), false, true)
  else (⟨#[]⟩, false, false)
theorem white_eq (p : ByteArray) : paths_Whiteout.f p = some (whiteOf p.data.toList) := by
  unfold paths_Whiteout.f whiteOf
  rw [ByteArray.toList_eq]
  by_cases h0 : p.data.toList = [46, 119, 104, 46, 46, 119, 104, 46, 46, 111, 112, 113]
  · rw [if_pos h0, if_pos h0]
  · rw [if_neg h0, if_neg h0, cutPrefix_eq]
    have e4 : (⟨#[46, 119, 104, 46]⟩ : ByteArray).data.toList = [46, 119, 104, 46] := rfl
    have e5 : (⟨#[46, 119, 104, 46]⟩ : ByteArray).size = 4 := rfl
    rw [e4, e5]
    by_cases h1 : ([46, 119, 104, 46] : List UInt8) <+: p.data.toList
    · rw [if_pos h1]
      simp only [Option.bind_some, if_true, drop_data, hasPrefix_eq, Lib.extract_to_end]
      by_cases h2 : p.data.toList.drop 4 = []
      · rw [if_pos h2, if_neg (fun h => h.2.1 h2)]
      · rw [if_neg h2]
        by_cases h3 : p.data.toList.drop 4 = [46]
        · rw [if_pos h3, if_neg (fun h => h.2.2.1 h3)]
        · rw [if_neg h3]
          by_cases h4 : p.data.toList.drop 4 = [46, 46]
          · rw [if_pos h4, if_neg (fun h => h.2.2.2.1 h4)]
          · rw [if_neg h4]
            by_cases h5 : ([46, 119, 104, 46] : List UInt8) <+: p.data.toList.drop 4
            · rw [if_pos (by simpa using h5), if_neg (fun h => h.2.2.2.2 h5)]
            · rw [if_neg (by simpa using h5), if_pos ⟨h1, h2, h3, h4, h5⟩, bs_eq (Lib.extract_to_end p 4)]
    · rw [if_neg h1, if_neg (fun h => h1 h.1)]
      simp
theorem white_no {l : List UInt8} (h0 : l ≠ [46, 119, 104, 46, 46, 119, 104, 46, 46, 111, 112, 113]) (h : ¬ (([46, 119, 104, 46] : List UInt8) <+: l ∧ l.drop 4 ≠ [] ∧ l.drop 4 ≠ [46] ∧ l.drop 4 ≠ [46, 46] ∧ ¬ ([46, 119, 104, 46] : List UInt8) <+: l.drop 4)) : whiteOf l = (⟨#[]⟩, false, false) := by
  unfold whiteOf
  rw [if_neg h0, if_neg h]
theorem white_yes {l : List UInt8} (h0 : l ≠ [46, 119, 104, 46, 46, 119, 104, 46, 46, 111, 112, 113]) (h : ([46, 119, 104, 46] : List UInt8) <+: l ∧ l.drop 4 ≠ [] ∧ l.drop 4 ≠ [46] ∧ l.drop 4 ≠ [46, 46] ∧ ¬ ([46, 119, 104, 46] : List UInt8) <+: l.drop 4) : whiteOf l = (bs (l.drop 4), false, true) := by
  unfold whiteOf
  rw [if_neg h0, if_pos h]
theorem refWhite_f (p : ByteArray) : Ev (fun k => lighterref14_Whiteout.f k p) (whiteOf p.data.toList) := by
  unfold lighterref14_Whiteout.f
  rw [ByteArray.toList_eq]
  by_cases h0 : p.data.toList = [46, 119, 104, 46, 46, 119, 104, 46, 46, 111, 112, 113]
  · rw [show whiteOf p.data.toList = (⟨#[]⟩, true, true) from by unfold whiteOf; rw [if_pos h0]]
    exact ev_pos h0 (Ev.now _)
  refine ev_neg h0 ?_
  have hsz := size_data p
  by_cases h1 : p.size < 5
  · refine ev_pos (by omega) ?_
    rw [white_no h0 (fun h => h.2.1 (List.drop_eq_nil_of_le (by omega)))]
    exact Ev.step (f := fun _ => some ((⟨#[]⟩ : ByteArray), false, false)) (fun _ => rfl) (Ev.now _)
  refine ev_neg (by omega) (ev_pos (by omega) (ev_pos (by omega) ?_))
  have hpre : (p.extract 0 4).toList = [46, 119, 104, 46] ↔ ([46, 119, 104, 46] : List UInt8) <+: p.data.toList := by
    rw [take_data, List.prefix_iff_eq_take]
    exact eq_comm
  by_cases h2 : ([46, 119, 104, 46] : List UInt8) <+: p.data.toList
  · have e : ((p.extract 0 4).toList != ([46, 119, 104, 46] : List UInt8)) = false := by simp [hpre.2 h2]
    rw [e]
    generalize hb : false = b
    refine Ev.step (fun _ => rfl) ?_
    refine ev_neg (by simp [← hb]) (ev_pos (by omega) ?_)
    rw [drop_data]
    have hne : p.data.toList.drop 4 ≠ [] := by
      intro h
      have := congrArg List.length h
      rw [List.length_drop, List.length_nil] at this
      omega
    have hs4 : (p.extract 4 p.size).size = p.size - 4 := by rw [ByteArray.size_extract]; omega
    by_cases h3 : p.data.toList.drop 4 = [46]
    · rw [white_no h0 (fun h => h.2.2.1 h3)]
      subst hb
      exact ev_pos h3 (Ev.now _)
    by_cases h4 : p.data.toList.drop 4 = [46, 46]
    · rw [white_no h0 (fun h => h.2.2.2.1 h4)]
      subst hb
      exact ev_neg h3 (ev_pos h4 (Ev.now _))
    refine ev_neg h3 (ev_neg h4 ?_)
    have hpre2 : ((p.extract 4 p.size).extract 0 4).toList = [46, 119, 104, 46] ↔ ([46, 119, 104, 46] : List UInt8) <+: p.data.toList.drop 4 := by
      rw [take_data, List.prefix_iff_eq_take, Lib.extract_to_end]
      exact eq_comm
    by_cases h5 : (p.extract 4 p.size).size > 3
    · refine ev_pos (by omega) (ev_pos (by omega) (ev_pos (by omega) ?_))
      by_cases h6 : ([46, 119, 104, 46] : List UInt8) <+: p.data.toList.drop 4
      · rw [white_no h0 (fun h => h.2.2.2.2 h6)]
        subst hb
        exact ev_pos (hpre2.2 h6) (Ev.now _)
      · rw [white_yes h0 ⟨h2, hne, h3, h4, h6⟩]
        subst hb
        refine ev_neg (fun h => h6 (hpre2.1 h)) (ev_eq ?_)
        rw [bs_eq (Lib.extract_to_end p 4)]
    · have h6 : ¬ ([46, 119, 104, 46] : List UInt8) <+: p.data.toList.drop 4 := by
        intro h
        have := h.length_le
        rw [List.length_drop, ← hsz] at this
        have e4 : ([46, 119, 104, 46] : List UInt8).length = 4 := rfl
        omega
      rw [white_yes h0 ⟨h2, hne, h3, h4, h6⟩]
      subst hb
      refine ev_neg (by omega) (ev_eq ?_)
      rw [bs_eq (Lib.extract_to_end p 4)]
  · have e : ((p.extract 0 4).toList != ([46, 119, 104, 46] : List UInt8)) = true := bne_iff_ne.2 (fun h => h2 (hpre.1 h))
    rw [e, white_no h0 (fun h => h2 h.1)]
    exact Ev.step (f := fun _ => some ((⟨#[]⟩ : ByteArray), false, false)) (fun _ => rfl) (Ev.now _)

/-! ### Base and Parent of the reference -/
theorem splitS_ne (p : ByteArray) : 0 < (splitS 47 p).length := by
  unfold splitS
  rw [List.length_map]
  exact List.length_pos_iff.2 (splitB_ne _ _)
theorem refBase_f (p : ByteArray) (hz : p.size ≤ 1000000) : Ev (fun k => lighterref14_Base.f k p) (bs (baseL p.data.toList)) := by
  refine Ev.bind (parts_f p hz) ?_
  have h1 := splitS_length p
  have h2 := splitS_ne p
  have e : wrap64 (((splitS 47 p).length : Int) - 1) = (((splitS 47 p).length - 1 : Nat) : Int) := by rw [wrap_id (by omega) (by omega)]; omega
  simp only [e]
  refine ev_pos (by omega) (ev_pos (by omega) (ev_eq (congrArg some ?_)))
  unfold rdOf baseL
  simp only [Int.toNat_natCast]
  rw [List.getLast_eq_getElem]
  unfold splitS
  have hlt : (splitB 47 p.data.toList).length - 1 < (splitB 47 p.data.toList).length := by
    have := List.length_pos_iff.2 (splitB_ne 47 p.data.toList)
    omega
  simp [List.getD_eq_getElem?_getD, hlt]
theorem slashed_eq (l : List (List UInt8)) : slashed (l.map bs) = bs (Lib.join l [47]) := by
  unfold slashed bs
  simp [Function.comp_def]
theorem refParent_f (p : ByteArray) (hz : p.size ≤ 1000000) : Ev (fun k => lighterref14_Parent.f k p) (bs (parentL p.data.toList)) := by
  refine Ev.bind (parts_f p hz) ?_
  have h1 := splitS_length p
  have h2 := splitS_ne p
  have e : wrap64 (((splitS 47 p).length : Int) - 1) = (((splitS 47 p).length - 1 : Nat) : Int) := by rw [wrap_id (by omega) (by omega)]; omega
  simp only [e, Int.toNat_natCast]
  refine ev_pos (by omega) (ev_pos (by omega) ?_)
  have hj := joined_f ((splitS 47 p).take ((splitS 47 p).length - 1)) (by rw [List.length_take]; omega) (fun x hx => by have := splitS_size (List.mem_of_mem_take hx); omega)
  refine Ev.bind hj (ev_eq (congrArg some ?_))
  have e2 : (splitS 47 p).take ((splitS 47 p).length - 1) = ((splitB 47 p.data.toList).dropLast).map bs := by
    unfold splitS
    rw [List.length_map, ← List.map_take, List.dropLast_eq_take]
  rw [e2, slashed_eq]
  rfl

/-! ### Join and Inside -/
def joinOf (a b : ByteArray) : ByteArray := if a.data.toList = [] then b else if b.data.toList = [] then a else a ++ bs [47] ++ b
theorem join_eq (a b : ByteArray) (ha : a.size ≤ 1000000) (hb : b.size ≤ 1000000) : paths_Join.f a b = some (joinOf a b) := by
  unfold paths_Join.f joinOf
  rw [ByteArray.toList_eq, ByteArray.toList_eq]
  have e1 : (⟨#[47]⟩ : ByteArray) = bs [47] := rfl
  have e2 : (bs [47]).size = 1 := rfl
  rw [e1]
  split
  · rfl
  · split
    · rfl
    · rw [if_pos (by omega), if_pos (by rw [ByteArray.size_append]; omega)]
theorem empty_of {a : ByteArray} (h : a.data.toList = []) : a = bs [] := bs_eq h
theorem refJoin_eq (a b : ByteArray) (ha : a.size ≤ 1000000) (hb : b.size ≤ 1000000) : lighterref14_Join.f a b = some (joinOf a b) := by
  unfold lighterref14_Join.f joinOf
  rw [ByteArray.toList_eq, ByteArray.toList_eq]
  have e1 : (⟨#[47]⟩ : ByteArray) = bs [47] := rfl
  have e2 : (bs [47]).size = 1 := rfl
  rw [e1]
  split
  · rename_i h
    rw [if_pos (by omega)]
    refine congrArg some (Go.WideShapes.bytes_inj ?_)
    rw [data_append, h]
    rfl
  · split
    · rename_i h
      rw [if_pos (by omega)]
      refine congrArg some (Go.WideShapes.bytes_inj ?_)
      rw [data_append, h, List.append_nil]
    · rw [if_pos (by omega), if_pos (by rw [ByteArray.size_append]; omega)]
def insideL (a b : List UInt8) : Bool := decide (a = [] ∨ b = a ∨ a ++ [47] <+: b)
theorem inside_eq (a b : ByteArray) (ha : a.size ≤ 1000000) : paths_Inside.f a b = some (insideL a.data.toList b.data.toList) := by
  unfold paths_Inside.f insideL
  rw [ByteArray.toList_eq, ByteArray.toList_eq]
  by_cases h1 : a.data.toList = []
  · rw [if_pos h1]; simp [h1]
  · rw [if_neg h1]
    by_cases h2 : b.data.toList = a.data.toList
    · rw [if_pos h2]; simp [h2]
    · rw [if_neg h2, if_pos (by omega), hasPrefix_eq, data_append]
      simp only [Option.bind_some]
      refine congrArg some ?_
      rw [decide_eq_decide]
      constructor
      · intro h; exact .inr (.inr h)
      · rintro (h | h | h)
        · exact absurd h h1
        · exact absurd h h2
        · exact h
theorem refInside_eq (a b : ByteArray) : lighterref14_Inside.f a b = some (insideL a.data.toList b.data.toList) := by
  unfold lighterref14_Inside.f insideL
  rw [ByteArray.toList_eq, ByteArray.toList_eq]
  have sa := size_data a
  have sb := size_data b
  by_cases h1 : a.data.toList = []
  · rw [if_pos h1]; simp [h1]
  rw [if_neg h1]
  by_cases h2 : b.data.toList = a.data.toList
  · rw [if_pos h2]; simp [h2]
  rw [if_neg h2]
  have hiff : (a.data.toList = [] ∨ b.data.toList = a.data.toList ∨ a.data.toList ++ [47] <+: b.data.toList) ↔ a.data.toList ++ [47] <+: b.data.toList := by simp [h1, h2]
  by_cases h3 : a.size < b.size
  · rw [if_pos (by omega), if_pos (by omega), if_pos (by omega)]
    have hlt : a.size < b.data.toList.length := by omega
    by_cases h4 : b.data.toList.take a.size = a.data.toList
    · rw [if_pos (show (b.extract 0 (a.size : Int).toNat).toList = a.data.toList from (take_data b a.size).trans h4), if_pos (by omega), bt_nat (List.getElem?_eq_getElem hlt)]
      refine congrArg some ?_
      rw [Bool.eq_iff_iff, beq_iff_eq, decide_eq_true_iff, hiff]
      have hb : b.data.toList = a.data.toList ++ (b.data.toList[a.size] :: b.data.toList.drop (a.size + 1)) := by
        rw [← h4, ← List.drop_eq_getElem_cons hlt, List.take_append_drop]
      constructor
      · intro h
        have h5 := (u8_eq (y := 47)).1 h
        rw [hb, h5]
        exact ⟨b.data.toList.drop (a.size + 1), by simp⟩
      · rintro ⟨r, hr⟩
        rw [hb, List.append_assoc] at hr
        have := List.append_cancel_left hr
        rw [List.singleton_append, List.cons.injEq] at this
        rw [← this.1]
        rfl
    · rw [if_neg (show ¬ (b.extract 0 (a.size : Int).toNat).toList = a.data.toList from fun h => h4 ((take_data b a.size).symm.trans h))]
      refine congrArg some ?_
      rw [eq_comm, decide_eq_false_iff_not, hiff]
      rintro ⟨r, hr⟩
      apply h4
      rw [← hr, sa, List.append_assoc]
      simp
  · rw [if_neg (by omega)]
    refine congrArg some ?_
    rw [eq_comm, decide_eq_false_iff_not, hiff]
    intro h
    have := h.length_le
    rw [List.length_append, List.length_singleton] at this
    omega
end Go.Proofs.YtoklancgpmnhcaaDoor.Hand

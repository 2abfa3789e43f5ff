/-
  The laws PathsClean, PathsWhite, PathsUnder, as plain statements. By an AI agent.
-/
import Derived.Test.YtoklancgpmnhcaaDoorPathsCl
import Derived.Test.YtoklancgpmnhcaaDoorPathsLaws
namespace Go.Proofs.YtoklancgpmnhcaaDoor.Hand
open Go Go.RowKit Go.Proofs.YtoklancgpmnhcaaDoor.PAll Go.Proofs.YtoklancgpmnhcaaDoorW.PrintWords Go.Proofs.YtoklancgpmnhcaaDoorW.PrintLast

theorem parent_base {l : List UInt8} (h : IsClean l) : joinOf (bs (parentL l)) (bs (baseL l)) = bs l := by
  unfold joinOf
  rw [bs_data, bs_data]
  rcases last_cases 47 l with hn | ⟨a, b, hl, hb⟩
  · rw [parentL_none hn, baseL_none hn, if_pos rfl]
  · subst hl
    rw [parentL_some hb, baseL_some hb]
    rcases h with h | ⟨h, _⟩
    · simp at h
    · rw [splitB_append, splitB_not_mem hb] at h
      have hbne : b ≠ [] := (h b (by simp)).1
      have hane : a ≠ [] := by
        intro e
        subst e
        exact (h [] (by simp [splitB])).1 rfl
      rw [if_neg hane, if_neg hbne]
      exact bs_eq (by simp [bs])
theorem parent_clean {l : List UInt8} (h : IsClean l) : IsClean (parentL l) := by
  rcases last_cases 47 l with hn | ⟨a, b, hl, hb⟩
  · rw [parentL_none hn]; exact .inl rfl
  · subst hl
    rw [parentL_some hb]
    rcases h with h | ⟨h, hlen⟩
    · simp at h
    · rw [splitB_append] at h
      simp at hlen
      exact .inr ⟨fun x hx => h x (List.mem_append.2 (.inl hx)), by omega⟩
theorem parent_less {l : List UInt8} (h : l ≠ []) : (parentL l).length < l.length := by
  rcases last_cases 47 l with hn | ⟨a, b, hl, hb⟩
  · rw [parentL_none hn]; exact List.length_pos_iff.2 h
  · subst hl
    rw [parentL_some hb]
    simp
theorem parent_in (l : List UInt8) : insideL (parentL l) l = true := by
  unfold insideL
  rw [decide_eq_true_iff]
  rcases last_cases 47 l with hn | ⟨a, b, hl, hb⟩
  · rw [parentL_none hn]; exact .inl rfl
  · subst hl
    rw [parentL_some hb]
    exact .inr (.inr ⟨b, by simp⟩)
theorem inside_trans {a b c : List UInt8} (h : insideL a b = true) (k : insideL b c = true) (hb : b = [] → a = []) : insideL a c = true := by
  unfold insideL at *
  rw [decide_eq_true_iff] at *
  rcases h with h | h | h
  · exact .inl h
  · subst h; exact k
  · rcases k with k | k | k
    · exact .inl (hb k)
    · subst k; exact .inr (.inr h)
    · refine .inr (.inr (h.trans ((List.prefix_append b [47]).trans k)))

theorem cleanLoop (s : ByteArray) (_hs : s.size ≤ 1000) : ∀ (n turn : Nat) (up : List UInt8), up.length = n → turn + n ≤ 200 → IsClean up → insideL up s.data.toList = true →
    Ev (fun k => lighterlaw14_PathsClean.l0 k s (bs up) (turn : Int)) true := by
  intro n
  induction n using Nat.strongRecOn with
  | _ n ih =>
    intro turn up hn ht hc hin
    have last : up = [] → Ev (fun k => lighterlaw14_PathsClean.j2 k s (bs up) (turn : Int) false) true := by
      intro e
      refine Ev.step (f := fun k => if (bs up).toList = ([] : List UInt8) then ((lighterlaw14_cleaned.f k).bind fun t => some t) else some false) (fun _ => rfl) ?_
      exact ev_pos (by rw [ByteArray.toList_eq, bs_data, e]) (Ev.bind cleaned_ev (Ev.now _))
    refine Ev.step (f := fun k => if (turn : Int) < 200 then (lighterlaw14_PathsClean.j2 k s (bs up) (turn : Int) ((bs up).toList != ([] : List UInt8))) else (lighterlaw14_PathsClean.j2 k s (bs up) (turn : Int) false)) (fun _ => rfl) ?_
    by_cases e : up = []
    · have hb : ((bs up).toList != ([] : List UInt8)) = false := by rw [ByteArray.toList_eq, bs_data, e]; rfl
      rw [hb]
      by_cases ht2 : (turn : Int) < 200
      · exact ev_pos ht2 (last e)
      · exact ev_neg ht2 (last e)
    · have hb : ((bs up).toList != ([] : List UInt8)) = true := by rw [ByteArray.toList_eq, bs_data]; exact bne_iff_ne.2 e
      have hpos := List.length_pos_iff.2 e
      refine ev_pos (by omega) ?_
      rw [hb]
      generalize hbb : true = b
      refine Ev.step (fun _ => rfl) ?_
      refine ev_pos (by simp [← hbb]) ?_
      subst hbb
      have hsz : (bs up).size ≤ 200 := by rw [bs_size]; omega
      have hpe := parent_ev (bs up) (by omega)
      rw [bs_data] at hpe
      have hless := parent_less e
      refine Ev.bind hpe ?_
      refine Ev.bind (ev_eq (inside_eq (bs up) s (by omega))) ?_
      rw [bs_data]
      refine ev_pos hin ?_
      refine ev_neg (by rw [bs_size, bs_size]; omega) ?_
      refine Ev.bind (ev_eq (inside_eq (bs (parentL up)) (bs up) (by rw [bs_size]; omega))) ?_
      rw [bs_data, bs_data]
      refine ev_pos (parent_in up) ?_
      refine Ev.bind (lawClean_f (bs (parentL up)) (by rw [bs_size]; omega)) ?_
      rw [bs_data]
      refine ev_pos (decide_eq_true (parent_clean hc)) ?_
      rw [show wrap64 ((turn : Int) + 1) = ((turn + 1 : Nat) : Int) from by rw [wrap_id (by omega) (by omega)]; omega]
      exact ih (parentL up).length (by omega) (turn + 1) (parentL up) rfl (by omega) (parent_clean hc) (inside_trans (parent_in up) hin (fun h => absurd h e))

theorem PathsClean : lighterlaw14_PathsClean.Pure := by
  intro p _
  refine Ev.rounds ?_
  unfold lighterlaw14_PathsClean.f
  by_cases h1 : p.size > 400
  · exact ev_pos (by omega) (Ev.bind cleaned_ev (Ev.now _))
  refine ev_neg (by omega) (Ev.bind (ev_eq (clean_f (by omega))) ?_)
  have hsz := cleanOf_size p
  rcases cleanOf_cases p with ⟨h0, hc⟩ | ⟨h0, hs, hn, _⟩
  · refine ev_pos h0 (Ev.bind (ev_eq (clean_f (by omega))) (Ev.bind (lawClean_f _ (by omega)) ?_))
    rw [cleanOf_clean hc]
    refine ev_pos (decide_eq_true hc) (ev_pos rfl (ev_pos rfl (Ev.bind (lawClean_f p (by omega)) ?_)))
    generalize hg : (cleanOf p).1 = s at *
    -- what is left when Join of Parent and Base is held against it
    have fin : Ev (fun k => (paths_Parent.f k s).bind fun t => (paths_Base.f k s).bind fun u => (paths_Join.f t u).bind fun v => lighterlaw14_PathsClean.j0 k s (v.toList != s.toList)) true := by
      refine Ev.bind (parent_ev s (by omega)) (Ev.bind (base_ev s (by omega)) ?_)
      have hp1 : (bs (parentL s.data.toList)).size ≤ 1000000 := by
        rw [bs_size]
        by_cases e : s.data.toList = []
        · rw [e]; decide
        · have := parent_less e
          rw [← size_data] at this
          omega
      have hb1 : (bs (baseL s.data.toList)).size ≤ 1000000 := by
        rw [bs_size]
        have := splitB_mem_length 47 s.data.toList (baseL s.data.toList) (List.getLast_mem _)
        rw [← size_data] at this
        omega
      refine Ev.bind (ev_eq (join_eq _ _ hp1 hb1)) ?_
      rw [parent_base hc, bs_of, show (s.toList != s.toList) = false by simp]
      refine Ev.step (f := fun k => lighterlaw14_PathsClean.l0 k s s 0) (fun _ => rfl) ?_
      have hl : s.data.toList.length ≤ 200 := by rw [← size_data]; exact hsz
      have := cleanLoop s (by omega) s.data.toList.length 0 s.data.toList rfl (by omega) hc (by unfold insideL; rw [decide_eq_true_iff]; exact .inr (.inl rfl))
      rw [bs_of] at this
      exact this
    by_cases hp : IsClean p.data.toList
    · refine ev_pos (decide_eq_true hp) (ev_pos ?_ fin)
      rw [← hg, cleanOf_clean hp]
    · exact ev_neg (by simpa using hp) fin
  · refine ev_neg h0 (ev_pos (by rw [hs]; exact ByteArray.toList_eq _) (Ev.bind (lawClean_f p (by omega)) (ev_neg (by simpa using hn) (Ev.bind cleaned_ev (Ev.now _)))))

/-! ### PathsWhite -/
theorem white_cases (l : List UInt8) : whiteOf l = (⟨#[]⟩, true, true) ∨ whiteOf l = (⟨#[]⟩, false, false) ∨ (whiteOf l = (bs (l.drop 4), false, true) ∧ l.drop 4 ≠ [] ∧ l.drop 4 ≠ [46] ∧ l.drop 4 ≠ [46, 46]) := by
  unfold whiteOf
  split
  · exact .inl rfl
  · split
    · rename_i h
      exact .inr (.inr ⟨rfl, h.2.1, h.2.2.1, h.2.2.2.1⟩)
    · exact .inr (.inl rfl)
theorem whiteLoop : ∀ (d turn : Nat) (s : ByteArray), turn + d = 3 → s.size ≤ 100 + 4 * turn → Ev (fun k => lighterlaw14_PathsWhite.l0 k s (turn : Int)) true
  | 0, turn, s, ht, hs => by
    refine Ev.step (fun _ => rfl) ?_
    exact ev_neg (by omega) (Ev.bind cleaned_ev (Ev.now _))
  | d + 1, turn, s, ht, hs => by
    have e4 : (⟨#[46, 119, 104, 46]⟩ : ByteArray).size = 4 := rfl
    have next : Ev (fun k => if 4 + s.size ≤ 9223372036854775807 then (lighterlaw14_PathsWhite.l0 k ((⟨#[46, 119, 104, 46]⟩ : ByteArray) ++ s) (wrap64 ((turn : Int) + 1))) else none) true := by
      refine ev_pos (by omega) ?_
      rw [show wrap64 ((turn : Int) + 1) = ((turn + 1 : Nat) : Int) from by rw [wrap_id (by omega) (by omega)]; omega]
      exact whiteLoop d (turn + 1) _ (by omega) (by rw [ByteArray.size_append]; omega)
    have j1 : ∀ (n : ByteArray) (is : Bool), (is = true → s.data.toList.drop 4 = n.data.toList ∨ n.data.toList = []) → (n.data.toList ≠ [] → n.data.toList ≠ [46] ∧ n.data.toList ≠ [46, 46]) → n.size ≤ 1000 →
        Ev (fun k => lighterlaw14_PathsWhite.j1 k s (turn : Int) n is false) true := by
      intro n is his hn hnz
      generalize hb : false = b
      refine Ev.step (fun _ => rfl) ?_
      refine ev_neg (by simp [← hb]) (Ev.bind (ev_eq (clean_f (by omega))) ?_)
      subst hb
      cases is with
      | false => exact ev_neg (by decide) next
      | true =>
        refine ev_pos rfl ?_
        by_cases h0 : (cleanOf s).2 = 0
        · refine ev_pos h0 (Ev.bind (lawClean_f s (by omega)) ?_)
          by_cases hc : IsClean s.data.toList
          · refine ev_pos (decide_eq_true hc) (Ev.bind (base_ev s (by omega)) ?_)
            by_cases hbase : baseL s.data.toList = s.data.toList
            · refine ev_pos (by rw [ByteArray.toList_eq, bs_data, hbase, ByteArray.toList_eq]) ?_
              by_cases hne : n.data.toList = []
              · exact ev_pos (by rw [ByteArray.toList_eq]; exact hne) next
              · refine ev_neg (by rw [ByteArray.toList_eq]; exact hne) (Ev.bind (lawClean_f n (by omega)) (ev_pos (decide_eq_true ?_) next))
                have hd := (his rfl).resolve_right hne
                -- no / in the name: one part
                have hns : (47 : UInt8) ∉ s.data.toList := by
                  rcases last_cases 47 s.data.toList with h | ⟨a, b, h, hb⟩
                  · exact h
                  · rw [h, baseL_some hb] at hbase
                    have := congrArg List.length hbase
                    simp at this
                    omega
                have hnn : (47 : UInt8) ∉ n.data.toList := by rw [← hd]; exact fun h => hns (List.mem_of_mem_drop h)
                have h0n : (0 : UInt8) ∉ n.data.toList := by
                  rw [← hd]
                  intro h
                  have hm := List.mem_of_mem_drop h
                  rcases hc with hc | ⟨hc, _⟩
                  · rw [hc] at hm; simp at hm
                  · rw [splitB_not_mem hns] at hc
                    exact (hc _ (List.mem_singleton.2 rfl)).2.2.2 hm
                refine .inr ⟨?_, ?_⟩
                · rw [splitB_not_mem hnn]
                  intro x hx
                  rw [List.mem_singleton.1 hx]
                  exact ⟨hne, (hn hne).1, (hn hne).2, h0n⟩
                · rw [← hd, List.length_drop, ← size_data]
                  omega
            · exact ev_neg (by rw [ByteArray.toList_eq, bs_data, ByteArray.toList_eq]; exact hbase) next
          · exact ev_neg (by simpa using hc) next
        · exact ev_neg h0 next
    refine Ev.step (fun _ => rfl) ?_
    refine ev_pos (by omega) (Ev.bind (ev_eq (white_eq s)) ?_)
    have ee : (⟨#[]⟩ : ByteArray).toList = [] := ByteArray.toList_eq _
    rcases white_cases s.data.toList with h | h | ⟨h, h1, h2, h3⟩
    · rw [h]
      refine ev_pos rfl (ev_pos ee (ev_pos rfl ?_))
      exact j1 _ _ (fun _ => .inr rfl) (fun h => absurd rfl h) (by decide)
    · rw [h]
      refine ev_neg (by decide) (ev_neg (by decide) (ev_pos ee ?_))
      exact j1 _ _ (fun _ => .inr rfl) (fun h => absurd rfl h) (by decide)
    · rw [h]
      have hsz : (bs (s.data.toList.drop 4)).size = s.size - 4 := by rw [bs_size, List.length_drop, ← size_data]
      have hpos : 4 < s.size := by
        have := List.length_pos_iff.2 h1
        rw [List.length_drop, ← size_data] at this
        omega
      refine ev_neg (by show ¬ false = true; decide) (ev_pos rfl (ev_neg (by rw [ByteArray.toList_eq, bs_data]; exact h1) ?_))
      rw [show ((s.size : Int) != wrap64 (((bs (s.data.toList.drop 4)).size : Int) + 4)) = false from by
        rw [bne_eq_false_iff_eq, hsz, wrap_id (by omega) (by omega)]
        omega]
      exact j1 _ _ (fun _ => .inl (bs_data _).symm) (fun _ => by rw [bs_data]; exact ⟨h2, h3⟩) (by show (bs (s.data.toList.drop 4)).size ≤ 1000; omega)
theorem PathsWhite : lighterlaw14_PathsWhite.Pure := by
  intro p _
  refine Ev.rounds ?_
  unfold lighterlaw14_PathsWhite.f
  by_cases h1 : p.size > 100
  · exact ev_pos (by omega) (Ev.bind cleaned_ev (Ev.now _))
  · exact ev_neg (by omega) (whiteLoop 3 0 p rfl (by omega))

/-! ### PathsUnder -/
theorem cleanStep_on {st m q : List ByteArray} {x : ByteArray} (h : cleanStep m x = some q) : cleanStep (st ++ m) x = some (st ++ q) := by
  unfold cleanStep at *
  split at h
  · rename_i h0; rw [if_pos h0]; cases h; rfl
  · rename_i h0
    rw [if_neg h0]
    split at h
    · rename_i h1; rw [if_pos h1]; cases h; rfl
    · rename_i h1
      rw [if_neg h1]
      split at h
      · rename_i h2
        rw [if_pos h2]
        split at h
        · cases h
        · rename_i hm
          have hpos := List.length_pos_iff.2 hm
          rw [if_neg (by simp [hm])]
          cases h
          rw [List.length_append, show st.length + m.length - 1 = st.length + (m.length - 1) by omega, List.take_length_add_append]
      · rename_i h2
        rw [if_neg h2]
        split at h
        · cases h
        · rename_i h3
          rw [if_neg h3]
          cases h
          rw [List.append_assoc]
theorem foldl_on : ∀ (xs st m q : List ByteArray), xs.foldlM cleanStep m = some q → xs.foldlM cleanStep (st ++ m) = some (st ++ q)
  | [], st, m, q, h => by cases h; rfl
  | x :: xs, st, m, q, h => by
    rw [List.foldlM_cons] at h ⊢
    obtain ⟨u, hu, hq⟩ := Option.bind_eq_some_iff.1 h
    rw [cleanStep_on hu]
    exact foldl_on xs st u q hq
theorem join_append {sep : List UInt8} : ∀ {xs ys : List (List UInt8)}, xs ≠ [] → ys ≠ [] → Lib.join (xs ++ ys) sep = Lib.join xs sep ++ sep ++ Lib.join ys sep
  | [], _, h, _ => absurd rfl h
  | [x], [], _, h => absurd rfl h
  | [x], y :: ys, _, _ => by rw [List.singleton_append, join_cons2, Lib.join_one]
  | x :: z :: r, ys, _, h => by
    rw [List.cons_append, List.cons_append, join_cons2, join_cons2, ← List.cons_append, join_append (xs := z :: r) (by simp) h]
    simp [List.append_assoc]
theorem cleanOf_some {p : ByteArray} (h : (cleanOf p).2 = 0) : ∃ l, cleanAll (splitS 47 p) = some l ∧ (cleanOf p).1 = slashed l ∧ (slashed l).size ≤ 200 := by
  rw [cleanOf_fin] at *
  cases hc : cleanAll (splitS 47 p) with
  | none => rw [hc] at h; exact absurd h (by decide)
  | some l =>
    rw [hc] at h
    by_cases h2 : (slashed l).size > 200
    · have : (fin (some l)).2 = 3 := by show (if (slashed l).size > 200 then _ else _ : ByteArray × Int).2 = 3; rw [if_pos h2]
      rw [this] at h; exact absurd h (by decide)
    · exact ⟨l, rfl, by show (if (slashed l).size > 200 then _ else _ : ByteArray × Int).1 = _; rw [if_neg h2], by omega⟩
theorem slashed_data (l : List ByteArray) : (slashed l).data.toList = Lib.join (l.map (·.data.toList)) [47] := by simp [slashed]
/-- What is joined to a clean path, and cleaned, is what both come to. -/
theorem clean_join {a p : ByteArray} (ha : IsClean a.data.toList) (hp : (cleanOf p).2 = 0) : cleanOf (joinOf a p) = if (joinOf a (cleanOf p).1).size > 200 then (⟨#[]⟩, 3) else (joinOf a (cleanOf p).1, 0) := by
  obtain ⟨lb, hlb, hb, hbz⟩ := cleanOf_some hp
  have hbg := cleanAll_keep _ lb hlb
  rcases ha with ha | ⟨ha, hal⟩
  · have e1 : ∀ q, joinOf a q = q := fun q => by unfold joinOf; rw [if_pos ha]
    rw [e1, e1, hb, if_neg (by omega)]
    exact Prod.ext hb hp
  by_cases ha0 : a.data.toList = []
  · have e1 : ∀ q, joinOf a q = q := fun q => by unfold joinOf; rw [if_pos ha0]
    rw [e1, e1, hb, if_neg (by omega)]
    exact Prod.ext hb hp
  -- the parts of a, then what p comes to
  have hbd : (cleanOf p).1.data.toList = Lib.join (lb.map (·.data.toList)) [47] := by rw [hb, slashed_data]
  have hb0 : (cleanOf p).1.data.toList = [] ↔ lb = [] := by
    constructor
    · intro h
      cases lb with
      | nil => rfl
      | cons y r =>
        exfalso
        rw [hbd] at h
        have hy := (hbg y (by simp)).1
        cases r with
        | nil => rw [List.map_cons, List.map_nil, Lib.join_one] at h; exact hy h
        | cons z r => rw [List.map_cons, List.map_cons, join_cons2] at h; simp at h
    · intro h; rw [hbd, h]; rfl
  have hpa : cleanAll (splitS 47 a) = some (splitS 47 a) := by
    unfold cleanAll
    rw [cleanAll_good _ [] (fun x hx => by
      obtain ⟨q, hq, rfl⟩ := List.mem_map.1 hx
      rw [bs_data]
      exact ha q hq)]
    rfl
  have hsa : slashed (splitS 47 a) = a := by unfold splitS; rw [slashed_eq, join_splitB, bs_of]
  have hne : splitS 47 a ≠ [] := by intro h; have := splitS_ne a; rw [h] at this; simp at this
  have hall : cleanAll (splitS 47 (joinOf a p)) = some (splitS 47 a ++ lb) := by
    by_cases hp0 : p.data.toList = []
    · have e1 : joinOf a p = a := by unfold joinOf; rw [if_neg ha0, if_pos hp0]
      have : lb = [] := by
        have e2 : p = bs [] := bs_eq hp0
        rw [e2] at hlb
        have e3 : cleanAll (splitS 47 (bs [])) = some [] := by decide +kernel
        rw [e3] at hlb
        exact (Option.some.inj hlb).symm
      rw [e1, hpa, this, List.append_nil]
    · have e1 : (joinOf a p).data.toList = a.data.toList ++ 47 :: p.data.toList := by
        unfold joinOf
        rw [if_neg ha0, if_neg hp0, data_append, data_append, bs_data, List.append_assoc]
        rfl
      have e2 : splitS 47 (joinOf a p) = splitS 47 a ++ splitS 47 p := by
        unfold splitS
        rw [e1, splitB_append, List.map_append]
      have hpa2 : (splitS 47 a).foldlM cleanStep [] = some (splitS 47 a) := hpa
      have := foldl_on (splitS 47 p) (splitS 47 a) [] lb hlb
      rw [List.append_nil] at this
      rw [e2]
      unfold cleanAll
      rw [List.foldlM_append, hpa2]
      exact this
  have hsl : slashed (splitS 47 a ++ lb) = joinOf a (cleanOf p).1 := by
    unfold joinOf
    rw [if_neg ha0]
    by_cases hl : lb = []
    · rw [if_pos (hb0.2 hl), hl, List.append_nil, hsa]
    · rw [if_neg (fun h => hl (hb0.1 h))]
      refine (bs_eq ?_).trans (bs_of _)
      rw [slashed_data, List.map_append, join_append (by simpa using hne) (by simpa using hl), data_append, data_append, bs_data, ← slashed_data, ← slashed_data, hsa, hb]
  rw [cleanOf_fin, hall]
  show (if (slashed (splitS 47 a ++ lb)).size > 200 then _ else _) = _
  rw [hsl]
theorem join_empty_b {a b : ByteArray} (hb : b.data.toList = []) : joinOf a b = a := by
  unfold joinOf
  by_cases h : a.data.toList = []
  · rw [if_pos h, bs_eq hb, bs_eq h]
  · rw [if_neg h, if_pos hb]
theorem join_size {a b : ByteArray} (hb : b.data.toList ≠ []) (ha : a.data.toList ≠ []) : (joinOf a b).data.toList = a.data.toList ++ [47] ++ b.data.toList := by
  unfold joinOf
  rw [if_neg ha, if_neg hb, data_append, data_append, bs_data]
theorem PathsUnder : lighterlaw14_PathsUnder.Pure := by
  intro dir p _ _
  refine Ev.rounds ?_
  unfold lighterlaw14_PathsUnder.f
  have done_ : Ev (fun k => (lighterlaw14_cleaned.f k).bind fun t => some t) true := Ev.bind cleaned_ev (Ev.now _)
  have big : Ev (fun k => lighterlaw14_PathsUnder.j0 k dir p true) true := Ev.step (f := fun k => (lighterlaw14_cleaned.f k).bind fun t => some t) (fun _ => rfl) done_
  by_cases h1 : dir.size > 150
  · exact ev_pos (by omega) big
  by_cases h2 : p.size > 150
  · refine ev_neg (by omega) ?_
    rw [show decide ((p.size : Int) > 150) = true from decide_eq_true (by omega)]
    exact big
  refine ev_neg (by omega) ?_
  rw [show decide ((p.size : Int) > 150) = false from decide_eq_false (by omega)]
  generalize hb : false = b
  refine Ev.step (fun _ => rfl) ?_
  refine ev_neg (by simp [← hb]) ?_
  clear hb b
  refine Ev.bind (ev_eq (clean_f (by omega))) (Ev.bind (ev_eq (clean_f (by omega))) ?_)
  have j1t : ∀ a b : ByteArray, Ev (fun k => lighterlaw14_PathsUnder.j1 k p a b true) true := fun a b => Ev.step (f := fun k => (lighterlaw14_cleaned.f k).bind fun t => some t) (fun _ => rfl) done_
  by_cases e1 : (cleanOf dir).2 = 0
  · refine ev_pos e1 ?_
    by_cases e2 : (cleanOf p).2 = 0
    · rw [show ((cleanOf p).2 != 0) = false from by rw [e2]; rfl]
      have ha : IsClean (cleanOf dir).1.data.toList := by
        rcases cleanOf_cases dir with h | h
        · exact h.2
        · exact absurd e1 h.1
      have haz := cleanOf_size dir
      have hbz := cleanOf_size p
      have hj := clean_join ha e2
      generalize (cleanOf dir).1 = a at *
      generalize hbb : (cleanOf p).1 = b at *
      generalize hb : false = bf
      refine Ev.step (fun _ => rfl) ?_
      refine ev_neg (by simp [← hb]) ?_
      subst hb
      refine Ev.bind (ev_eq (join_eq a p (by omega) (by omega))) ?_
      have hjz : (joinOf a p).size ≤ 1000000 := by
        unfold joinOf
        split
        · omega
        · split
          · omega
          · rw [ByteArray.size_append, ByteArray.size_append, bs_size]
            simp
            omega
      refine Ev.bind (ev_eq (clean_f hjz)) ?_
      rw [hj]
      by_cases hbig : (joinOf a b).size > 200
      · rw [if_pos hbig]
        refine ev_pos rfl (ev_pos ?_ done_)
        have hb0 : b.data.toList ≠ [] := by
          intro h
          rw [join_empty_b h] at hbig
          omega
        have ha0 : a.data.toList ≠ [] := by
          intro h
          unfold joinOf at hbig
          rw [if_pos h] at hbig
          omega
        have := congrArg List.length (join_size hb0 ha0)
        rw [← size_data, List.length_append, List.length_append, ← size_data, ← size_data, List.length_singleton] at this
        rw [wrap_id (x := (a.size : Int) + b.size) (by omega) (by omega), wrap_id (by omega) (by omega)]
        omega
      · rw [if_neg hbig]
        refine ev_neg (by show ¬ (0 : Int) = 3; decide) (ev_pos rfl (Ev.bind (ev_eq (join_eq a b (by omega) (by omega))) (ev_pos rfl ?_)))
        refine Ev.bind (ev_eq (inside_eq a (joinOf a b) (by omega))) (ev_pos ?_ (Ev.bind (ev_eq (inside_eq (joinOf a b) a (by omega))) ?_))
        · unfold insideL
          rw [decide_eq_true_iff]
          by_cases ha0 : a.data.toList = []
          · exact .inl ha0
          · by_cases hb0 : b.data.toList = []
            · rw [join_empty_b hb0]; exact .inr (.inl rfl)
            · exact .inr (.inr ⟨_, (join_size hb0 ha0).symm⟩)
        · by_cases hb0 : b.data.toList = []
          · refine ev_pos (by rw [ByteArray.toList_eq]; exact hb0) (ev_pos ?_ done_)
            rw [join_empty_b hb0]
            unfold insideL
            simp
          · refine ev_neg (by rw [ByteArray.toList_eq]; exact hb0) (ev_pos ?_ done_)
            show (insideL (joinOf a b).data.toList a.data.toList == ((joinOf a b).toList == ([] : List UInt8))) = true
            rw [ByteArray.toList_eq]
            by_cases ha0 : a.data.toList = []
            · have e : joinOf a b = b := by unfold joinOf; rw [if_pos ha0]
              rw [e, ha0]
              unfold insideL
              have : ¬ (b.data.toList = [] ∨ [] = b.data.toList ∨ b.data.toList ++ [47] <+: []) := by
                rintro (h | h | h)
                · exact hb0 h
                · exact hb0 h.symm
                · simp at h
              rw [decide_eq_false this, beq_eq_false_iff_ne.2 hb0]
              rfl
            · rw [join_size hb0 ha0]
              unfold insideL
              have : ¬ (a.data.toList ++ [47] ++ b.data.toList = [] ∨ a.data.toList = a.data.toList ++ [47] ++ b.data.toList ∨ a.data.toList ++ [47] ++ b.data.toList ++ [47] <+: a.data.toList) := by
                rintro (h | h | h)
                · simp at h
                · have := congrArg List.length h
                  simp at this
                · have := h.length_le
                  simp at this
                  omega
              rw [decide_eq_false this]
              simp
    · rw [show ((cleanOf p).2 != 0) = true from bne_iff_ne.2 e2]
      exact j1t _ _
  · exact ev_neg e1 (j1t _ _)
end Go.Proofs.YtoklancgpmnhcaaDoor.Hand

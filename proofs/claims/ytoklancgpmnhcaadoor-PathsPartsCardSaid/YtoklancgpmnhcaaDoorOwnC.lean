/-
  A slice of one-cell elements that the call itself made, and that may have been cut with a capacity (xs[0:n:n]): its capacity is at most its row's. Append and cut. By an AI agent.
-/
import Derived.Test.YtoklancgpmnhcaaDoorRangeBox
import Derived.RangeFuncBox
import Derived.Laws.AppendOwn
import Derived.OwnWalkIn
namespace Go.Proofs.YtoklancgpmnhcaaDoor.Hand
open Go.RowKit

def OwnsC (W : World) (base : Nat) (e : TypeId) (v : Value) (xs : List Value) : Prop :=
  (v = .slice none 0 0 ∧ xs = []) ∨
   ∃ g cap cur, v = .slice (some ⟨g, 0, none⟩) xs.length cap ∧ base ≤ g ∧ W.heap[g]? = some (.cells cur e (0, 0)) ∧ xs.length ≤ cap ∧ cap ≤ maxLen ∧ cap ≤ cur.size ∧ cur.toList.take xs.length = xs

theorem OwnsC.nil (W : World) (base : Nat) (e : TypeId) : OwnsC W base e (.slice none 0 0) [] := .inl ⟨rfl, rfl⟩
theorem OwnsC.kept {W W' : World} {base : Nat} {e : TypeId} {v : Value} {xs : List Value} {row : Option Nat} (h : OwnsC W base e v xs) (hg : W.grownBy W' row) (hne : v.ownBlock = none ∨ v.ownBlock ≠ row) : OwnsC W' base e v xs := by
  rcases h with h | ⟨g, cap, cur, rfl, hb, hh, h1, h2, h3, h4⟩
  · exact .inl h
  · refine .inr ⟨g, cap, cur, rfl, hb, (hg.block g (Array.getElem?_eq_some_iff.1 hh).1 ?_).trans hh, h1, h2, h3, h4⟩
    rcases hne with hne | hne
    · simp [Value.ownBlock] at hne
    · exact hne
theorem OwnsC.alloc {W : World} {base : Nat} {e : TypeId} {v : Value} {xs : List Value} (h : OwnsC W base e v xs) (o : Obj) : OwnsC (W.alloc o) base e v xs :=
  h.kept (World.grownBy_alloc W o none) (by cases v.ownBlock <;> simp)
theorem OwnsC.block {W : World} {base : Nat} {e : TypeId} {v : Value} {xs : List Value} (h : OwnsC W base e v xs) : ∀ k, v.ownBlock = some k → base ≤ k ∧ ∃ cur, W.heap[k]? = some (.cells cur e (0, 0)) := by
  rcases h with ⟨rfl, rfl⟩ | ⟨g, cap, cur, rfl, hb, hh, _⟩
  · intro k hk; simp [Value.ownBlock] at hk
  · intro k hk
    obtain rfl : g = k := by simpa [Value.ownBlock] using hk
    exact ⟨hb, cur, hh⟩
theorem OwnsC.cell {W : World} {base : Nat} {e : TypeId} {v : Value} {xs : List Value} (h : OwnsC W base e v xs) {g n cap : Nat} (hv : v = .slice (some ⟨g, 0, none⟩) n cap) : n = xs.length ∧ ∀ j u, xs[j]? = some u → W.cell? ⟨g, 0 + j, none⟩ = some u := by
  subst hv
  rcases h with ⟨h, _⟩ | ⟨g', cap', cur, e', hb, hh, h1, h2, h3, h4⟩
  · cases h
  · cases e'
    refine ⟨rfl, fun j u hj => ?_⟩
    have hlt := (List.getElem?_eq_some_iff.1 hj).1
    rw [← h4] at hj
    rw [List.getElem?_take_of_lt hlt] at hj
    simp only [World.cell?, hh, Nat.zero_add, Option.isSome_none, Bool.false_eq_true, if_false]
    rw [← hj]
    exact (Array.getElem?_toList ..).symm
theorem OwnsC.form {W : World} {base : Nat} {e : TypeId} {v : Value} {xs : List Value} (h : OwnsC W base e v xs) (h0 : xs ≠ []) : ∃ g cap, v = .slice (some ⟨g, 0, none⟩) xs.length cap ∧ xs.length ≤ cap := by
  rcases h with ⟨_, h⟩ | ⟨g, cap, cur, e', _, _, h1, _⟩
  · exact absurd h h0
  · exact ⟨g, cap, e', h1⟩
theorem OwnsC.slice {W : World} {base : Nat} {e : TypeId} {v : Value} {xs : List Value} (h : OwnsC W base e v xs) : ∃ A c, v = .slice A xs.length c ∧ xs.length ≤ c := by
  rcases h with ⟨rfl, rfl⟩ | ⟨g, cap, cur, rfl, _, _, h1, _⟩
  · exact ⟨none, 0, rfl, Nat.le_refl _⟩
  · exact ⟨_, cap, rfl, h1⟩
/-- xs[0:n:n]. -/
theorem OwnsC.cut {W : World} {base : Nat} {e : TypeId} {g m cap : Nat} {xs : List Value} (h : OwnsC W base e (.slice (some ⟨g, 0, none⟩) m cap) xs) (n : Nat) (hn : n ≤ xs.length) : OwnsC W base e (.slice (some ⟨g, 0, none⟩) n n) (xs.take n) := by
  rcases h with ⟨h, _⟩ | ⟨g', cap', cur, e', hb, hh, h1, h2, h3, h4⟩
  · cases h
  · cases e'
    refine .inr ⟨g, n, cur, by rw [List.length_take, Nat.min_eq_left hn], hb, hh, by rw [List.length_take]; omega, by omega, by omega, ?_⟩
    rw [List.length_take, Nat.min_eq_left hn, ← h4, List.take_take]
    rw [Nat.min_eq_left hn]

theorem take_snoc_cons (xs r : List Value) (y : Value) : List.take (xs.length + 1) (xs ++ y :: r) = xs ++ [y] := by
  rw [show xs ++ y :: r = (xs ++ [y]) ++ r by simp]
  rw [List.take_append_of_le_length (by simp)]
  exact List.take_of_length_le (by simp)

theorem run_append_ownC {P : Program} (w : World) (base : Nat) (t ty e : TypeId) (i : TypeInfo) (z : Value) (bytes : Nat) (ht : P.underlying t = some (.slice e)) (hi : P.info? e = some i) (hz : i.zero = some z)
    (hsize : i.size = 1) (hby : i.bytes = bytes) (hzs : z.cells.size = 1)
    (v : Value) (xs : List Value) (hown : OwnsC w base e v xs) (a : Addr) (y : Value) (hy : w.cell? a = some y) (h1 : y.oneCell' = true)
    (h63 : xs.length + 1 ≤ maxLen) (hbytes : (xs.length + 1) * bytes ≤ 140737488355328) (hbase : base ≤ w.heap.size) :
    ∃ v' w', (Builtin.append_ #[t, t] ty #[v, .slice (some a) 1 1]).run P w = .ok v' w' ∧ OwnsC w' base e v' (xs ++ [y]) ∧ w.grownBy w' v.ownBlock := by
  subst hby
  have hsmall : xs.length + 1 ≤ 9223372036854775807 := by simp only [maxLen] at h63; omega
  have hnews : ∀ j u, ([y] : List Value)[j]? = some u → w.cell? (a.add j) = some u := by
    intro j u hj
    cases j with
    | zero => simp at hj; subst hj; simpa [Addr.add] using hy
    | succ j => simp at hj
  have h1' : ∀ u ∈ ([y] : List Value), u.oneCell' = true := by simpa using h1
  rcases hown with ⟨rfl, rfl⟩ | ⟨g, cap, cur, rfl, hbg, hg, hnc, hcm, hcs, htake⟩
  · have hr := run_append_nil (P := P) w t ty e i z ht hi hz a 1 1 [y] (by simp [hsize]) hnews (by omega) (by omega) (by simpa using Nat.le_trans hbytes (by omega))
    have hge := grownCap_ge w 1 0 e
    have hcm : grownCap w 1 0 e ≤ maxLen := grownCap_le_maxLen w 1 0 e (by simpa using h63)
    refine ⟨_, _, hr, .inr ⟨w.heap.size, _, _, rfl, hbase, heap_alloc_new w.drew _, hge, hcm, ?_, ?_⟩, ⟨rfl, rfl, rfl, by simp, fun k hk _ => heap_alloc_old w.drew _ k hk⟩⟩
    · simp only [Array.size_append, List.size_toArray, size_zeroCells, hzs, List.length_singleton]
      omega
    · simp
  · by_cases hroom : xs.length + 1 ≤ cap
    · have hr := run_append_room (P := P) w t ty e i ht hi g xs.length cap cur hg a 1 1 [y] (by simp [hsize]) hnews h1' hroom (by rw [hsize]; simp; omega)
      rw [hsize, Nat.mul_one, htake] at hr
      refine ⟨_, _, hr, .inr ⟨g, cap, _, by simp, hbg, setRow_heap w g cur _ e _ hg, by simpa using hroom, hcm, ?_, ?_⟩, ⟨rfl, rfl, rfl, by simp, fun k _ hk => setRow_other w g k _ (fun e => hk (by simp [Value.ownBlock, e]))⟩⟩
      · simp only [List.size_toArray, List.length_append, List.length_drop, Array.length_toList, List.length_singleton]
        omega
      · simp [take_snoc_cons]
    · have holds : ∀ j u, xs[j]? = some u → w.cell? ((⟨g, 0, none⟩ : Addr).add j) = some u := by
        intro j u hj
        have := ((OwnsC.cell (.inr ⟨g, cap, cur, rfl, hbg, hg, hnc, hcm, hcs, htake⟩ : OwnsC w base e (.slice (some ⟨g, 0, none⟩) xs.length cap) xs) rfl).2 j u hj)
        rw [Addr.add_lit]
        simpa using this
      have hr := run_append_grow (P := P) w t ty e i z ht hi hz ⟨g, 0, none⟩ xs.length cap xs (by simp [hsize]) holds a 1 1 [y] (by simp [hsize]) hnews (by omega) (by omega) (growslice_fits (by omega) hbytes)
      have hge := grownCap_ge w (xs.length + 1) cap e
      have hcm' : grownCap w (xs.length + 1) cap e ≤ maxLen := grownCap_le_maxLen w (xs.length + 1) cap e h63
      refine ⟨_, _, hr, .inr ⟨w.heap.size, _, _, by simp, hbase, heap_alloc_new w.drew _, by simpa using hge, hcm', ?_, ?_⟩, ⟨rfl, rfl, rfl, by simp, fun k hk _ => heap_alloc_old w.drew _ k hk⟩⟩
      · simp only [Array.size_append, List.size_toArray, size_zeroCells, hzs, List.length_singleton]
        omega
      · simp [take_snoc_cons]

theorem wpListIn_append_ownC {F : Fence} {n : Nat} {P : Program} (w : World) {ops : Array Oper} {rest : List Oper} {o : Oper} {a : Act} {Q : Exit → Act → World → Prop}
    (hg : o.guard = none) (s x : Operand) (t : TypeId) (hop : o.op = Op.call { callee := Callee.builtin Builtin.append, args := #[s, x], argTypes := #[t, t] })
    (base : Nat) (e : TypeId) (i : TypeInfo) (z : Value) (bytes : Nat) (h1 : P.underlying t = some (.slice e)) (h2 : P.info? e = some i) (h3 : i.zero = some z) (h4 : i.size = 1) (h5 : i.bytes = bytes) (h6 : z.cells.size = 1)
    (v : Value) (xs : List Value) (hs : a.eval s = v) (hown : OwnsC w base e v xs) (ad : Addr) (y : Value) (hx : a.eval x = .slice (some ad) 1 1)
    (hc : w.cell? ad = some y) (h1c : y.oneCell' = true) (b1 : xs.length + 1 ≤ maxLen) (b2 : (xs.length + 1) * bytes ≤ 140737488355328) (b3 : base ≤ w.heap.size)
    (hK : ∀ v' w', OwnsC w' base e v' (xs ++ [y]) → w.grownBy w' v.ownBlock → wpListIn F n P ops Q rest (a.put o.dst v') w') :
    wpListIn F n P ops Q (o :: rest) a w := by
  refine wpListIn_plain hg fun K hK' => ?_
  obtain ⟨v', w', hrun, r1, r2⟩ := run_append_ownC (P := P) w base t o.type e i z bytes h1 h2 h3 h4 h5 h6 v xs hown ad y hc h1c b1 b2 b3
  unfold Oper.wpIn
  refine ⟨?_, ?_⟩
  · simp [Oper.about, hop, resolve, Target.leads, Sem.run_pure]
  · rw [Oper.semAt_plain F _ _ (by rw [hop]; intro c hc'; cases hc')]
    simp [execOp, hop, resolve, invoke, builtin, hs, hx, hrun, Result.andThen]
    exact hK' _ _ (hK v' w' r1 r2)
end Go.Proofs.YtoklancgpmnhcaaDoor.Hand

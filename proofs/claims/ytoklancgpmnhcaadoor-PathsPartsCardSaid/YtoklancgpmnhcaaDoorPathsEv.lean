/-
  What the printed functions of chapter 14 come to, in the words of PathsL. By an AI agent.
-/
import Derived.Test.YtoklancgpmnhcaaDoorPAllx4
import Derived.Test.YtoklancgpmnhcaaDoorPathsL
namespace Go.Proofs.YtoklancgpmnhcaaDoor.Hand
open Go Go.RowKit Go.Proofs.YtoklancgpmnhcaaDoor.PAll Go.Proofs.YtoklancgpmnhcaaDoorW.PrintWords Go.Proofs.YtoklancgpmnhcaaDoorW.PrintLast

theorem ev_pos {α : Type} {c : Prop} [Decidable c] {a b : Nat → Option α} {r : α} (h : c) (k : Ev a r) : Ev (fun n => if c then a n else b n) r := by
  simp only [if_pos h]; exact k
theorem ev_neg {α : Type} {c : Prop} [Decidable c] {a b : Nat → Option α} {r : α} (h : ¬ c) (k : Ev b r) : Ev (fun n => if c then a n else b n) r := by
  simp only [if_neg h]; exact k
theorem ev_eq {α : Type} {a : Option α} {r : α} (h : a = some r) : Ev (fun _ => a) r := ⟨0, fun _ _ => h⟩
theorem wrap_id {x : Int} (h1 : -9223372036854775808 ≤ x) (h2 : x ≤ 9223372036854775807) : wrap64 x = x := by unfold wrap64; omega

theorem bt_nat {p : ByteArray} {n : Nat} {x : UInt8} (h : p.data.toList[n]? = some x) : bt p n = x.toNat := by
  have hlt := (List.getElem?_eq_some_iff.1 h).1
  obtain ⟨h1, h2⟩ := List.getElem?_eq_some_iff.1 h
  unfold bt
  have hs : (n : Int).toNat < p.size := by rw [size_data]; simpa using hlt
  rw [dif_pos hs]
  subst h2
  simp only [Int.toNat_natCast]
  rfl
theorem u8_eq {x y : UInt8} : ((x.toNat : Int) = y.toNat) ↔ x = y := by
  constructor
  · intro h; exact UInt8.toNat_inj.1 (by omega)
  · intro h; rw [h]

/-! ### LastIndexByte -/
theorem last_some {p : ByteArray} {a b : List UInt8} (hp : p.data.toList = a ++ 47 :: b) (hb : (47 : UInt8) ∉ b) (hz : p.size ≤ 140737488351232) : ∀ m : Nat, m ≤ b.length →
    Ev (fun k => bytealg_LastIndexByteString.l0 k p 47 ((a.length + m : Nat) : Int)) (a.length : Int)
  | 0, _ => by
    refine Ev.step (fun _ => rfl) ?_
    have hn : p.size = a.length + (b.length + 1) := by rw [size_data, hp]; simp
    refine ev_pos (by omega) (ev_pos (by omega) (ev_pos (by omega) (ev_pos ?_ (Ev.now _))))
    exact bt_nat (x := 47) (by rw [hp]; simp)
  | m + 1, hm => by
    refine Ev.step (fun _ => rfl) ?_
    have hn : p.size = a.length + (b.length + 1) := by rw [size_data, hp]; simp
    refine ev_pos (by omega) (ev_pos (by omega) (ev_pos (by omega) (ev_neg ?_ ?_)))
    · rw [bt_nat (x := b[m]) (by rw [hp, List.getElem?_append_right (by omega)]; simp [show a.length + (m + 1) - a.length = m + 1 by omega])]
      intro h
      exact hb (u8_eq (y := 47) |>.1 h ▸ List.getElem_mem _)
    · have e : wrap64 (((a.length + (m + 1) : Nat) : Int) - 1) = ((a.length + m : Nat) : Int) := by rw [wrap_id (by omega) (by omega)]; omega
      simp only [e]
      exact last_some hp hb hz m (by omega)
theorem last_none {p : ByteArray} (hp : (47 : UInt8) ∉ p.data.toList) (hz : p.size ≤ 140737488351232) : ∀ m : Nat, m ≤ p.size →
    Ev (fun k => bytealg_LastIndexByteString.l0 k p 47 ((m : Int) - 1)) (-1)
  | 0, _ => by
    refine Ev.step (fun _ => rfl) ?_
    exact ev_neg (by omega) (Ev.now _)
  | m + 1, hm => by
    refine Ev.step (fun _ => rfl) ?_
    have e1 : ((m + 1 : Nat) : Int) - 1 = (m : Int) := by omega
    simp only [e1]
    have hlt : m < p.data.toList.length := by rw [← size_data]; omega
    refine ev_pos (by omega) (ev_pos (by omega) (ev_pos (by omega) (ev_neg ?_ ?_)))
    · rw [bt_nat (x := p.data.toList[m]) (List.getElem?_eq_getElem hlt)]
      intro h
      exact hp (u8_eq (y := 47) |>.1 h ▸ List.getElem_mem _)
    · rw [show wrap64 ((m : Int) - 1) = (m : Int) - 1 from wrap_id (by omega) (by omega)]
      exact last_none hp hz m (by omega)
/-- The last place of /: what is ahead of it. -/
theorem lastIndex_some {p : ByteArray} {a b : List UInt8} (hp : p.data.toList = a ++ 47 :: b) (hb : (47 : UInt8) ∉ b) (hz : p.size ≤ 140737488351232) : Ev (fun k => strings_LastIndexByte.f k p 47) (a.length : Int) := by
  have hn : p.size = a.length + (b.length + 1) := by rw [size_data, hp]; simp
  refine Ev.bind (g := fun k => bytealg_LastIndexByteString.f k p 47) (a := (a.length : Int)) ?_ (Ev.now _)
  unfold bytealg_LastIndexByteString.f
  rw [show wrap64 ((p.size : Int) - 1) = ((a.length + b.length : Nat) : Int) from by rw [wrap_id (by omega) (by omega)]; omega]
  exact last_some hp hb hz b.length (Nat.le_refl _)
theorem lastIndex_none {p : ByteArray} (hp : (47 : UInt8) ∉ p.data.toList) (hz : p.size ≤ 140737488351232) : Ev (fun k => strings_LastIndexByte.f k p 47) (-1) := by
  refine Ev.bind (g := fun k => bytealg_LastIndexByteString.f k p 47) (a := (-1 : Int)) ?_ (Ev.now _)
  unfold bytealg_LastIndexByteString.f
  rw [wrap_id (by omega) (by omega)]
  exact last_none hp hz p.size (Nat.le_refl _)

/-! ### Base and Parent of the program -/
def baseL (l : List UInt8) : List UInt8 := (splitB 47 l).getLast (splitB_ne _ _)
def parentL (l : List UInt8) : List UInt8 := Lib.join (splitB 47 l).dropLast [47]
theorem baseL_some {a b : List UInt8} (hb : (47 : UInt8) ∉ b) : baseL (a ++ 47 :: b) = b := by
  unfold baseL
  simp only [splitB_append, splitB_not_mem hb]
  simp
theorem baseL_none {b : List UInt8} (hb : (47 : UInt8) ∉ b) : baseL b = b := by
  unfold baseL
  simp only [splitB_not_mem hb]
  simp
theorem parentL_some {a b : List UInt8} (hb : (47 : UInt8) ∉ b) : parentL (a ++ 47 :: b) = a := by
  unfold parentL
  simp only [splitB_append, splitB_not_mem hb, List.dropLast_concat, join_splitB]
theorem parentL_none {b : List UInt8} (hb : (47 : UInt8) ∉ b) : parentL b = [] := by
  unfold parentL
  simp [splitB_not_mem hb, Lib.join_nil]

theorem bs_eq {s : ByteArray} {l : List UInt8} (h : s.data.toList = l) : s = bs l := by rw [← h, bs_of]
theorem base_ev (p : ByteArray) (hz : p.size ≤ 140737488351232) : Ev (fun k => paths_Base.f k p) (bs (baseL p.data.toList)) := by
  rcases last_cases 47 p.data.toList with h | ⟨a, b, h, hb⟩
  · refine Ev.bind (lastIndex_none h hz) ?_
    refine ev_pos (by rw [wrap_id (by omega) (by omega)]; omega) (ev_pos (by rw [wrap_id (by omega) (by omega)]; omega) ?_)
    refine ev_eq (congrArg some (bs_eq ?_))
    rw [Lib.extract_data, baseL_none h, wrap_id (by omega) (by omega)]
    simp only [Int.reduceNeg, Int.reduceAdd, Int.toNat_zero, List.drop_zero, Nat.sub_zero]
    exact List.take_of_length_le (by rw [← size_data]; exact Nat.le_refl _)
  · have hn : p.size = a.length + (b.length + 1) := by rw [size_data, h]; simp
    refine Ev.bind (lastIndex_some h hb hz) ?_
    have e : wrap64 ((a.length : Int) + 1) = ((a.length + 1 : Nat) : Int) := by rw [wrap_id (by omega) (by omega)]; omega
    simp only [e]
    refine ev_pos (by omega) (ev_pos (by omega) ?_)
    refine ev_eq (congrArg some (bs_eq ?_))
    rw [Lib.extract_data, h, baseL_some hb, hn]
    simp
    exact List.take_of_length_le (by omega)
theorem parent_ev (p : ByteArray) (hz : p.size ≤ 140737488351232) : Ev (fun k => paths_Parent.f k p) (bs (parentL p.data.toList)) := by
  rcases last_cases 47 p.data.toList with h | ⟨a, b, h, hb⟩
  · refine Ev.bind (lastIndex_none h hz) ?_
    have e : mx (-1) 0 = 0 := by decide
    simp only [e]
    refine ev_pos (by omega) (ev_pos (by omega) ?_)
    refine ev_eq (congrArg some (bs_eq ?_))
    rw [Lib.extract_data, parentL_none h]
    simp
  · have hn : p.size = a.length + (b.length + 1) := by rw [size_data, h]; simp
    refine Ev.bind (lastIndex_some h hb hz) ?_
    have e : mx (a.length : Int) 0 = (a.length : Int) := by unfold mx; omega
    simp only [e]
    refine ev_pos (by omega) (ev_pos (by omega) ?_)
    refine ev_eq (congrArg some (bs_eq ?_))
    rw [Lib.extract_data, h, parentL_some hb]
    simp

/-! ### The reference's Parts -/
theorem getLast_bs {xs : List (List UInt8)} {y : List UInt8} : ((xs ++ [y]).map bs).length = xs.length + 1 := by simp
theorem parts_ev (p : ByteArray) (hz : p.size ≤ 1000000) : ∀ (d i : Nat), i + d = p.size →
    Ev (fun k => lighterref14_Parts.l0 k p ((splitB 47 (p.data.toList.take i)).map bs) (i : Int)) (splitS 47 p)
  | 0, i, hi => by
    refine Ev.step (fun _ => rfl) ?_
    refine ev_neg (by omega) (ev_eq ?_)
    rw [List.take_of_length_le (by rw [← size_data]; omega)]
    rfl
  | d + 1, i, hi => by
    refine Ev.step (fun _ => rfl) ?_
    have hlt : i < p.data.toList.length := by rw [← size_data]; omega
    obtain ⟨x, hx⟩ : ∃ x, p.data.toList[i]? = some x := ⟨_, List.getElem?_eq_getElem hlt⟩
    have ew : wrap64 ((i : Int) + 1) = ((i + 1 : Nat) : Int) := by rw [wrap_id (by omega) (by omega)]; omega
    have et : p.data.toList.take (i + 1) = p.data.toList.take i ++ [x] := by rw [List.take_add_one, hx]; rfl
    have ih := parts_ev p hz d (i + 1) (by omega)
    have hl := splitB_length 47 (p.data.toList.take i)
    rw [List.length_take] at hl
    refine ev_pos (by omega) (ev_pos (by omega) ?_)
    rw [bt_nat hx]
    simp only [ew]
    by_cases hc : x = 47
    · refine ev_pos (by rw [hc]; rfl) (ev_pos (by simp; omega) ?_)
      rw [et, hc, splitB_snoc_eq] at ih
      simpa [bs] using ih
    · obtain ⟨xs, y, h1, h2⟩ := splitB_snoc_ne hc (p.data.toList.take i)
      have hxl : xs.length ≤ 1000001 := by rw [h1] at hl; simp at hl; omega
      have hyl : y.length ≤ 1000000 := by
        have := splitB_mem_length 47 (p.data.toList.take i) y (by rw [h1]; simp)
        rw [List.length_take] at this
        omega
      have e1 : wrap64 ((((splitB 47 (p.data.toList.take i)).map bs).length : Int) - 1) = (xs.length : Int) := by rw [h1, getLast_bs, wrap_id (by omega) (by omega)]; omega
      have e2 : rdOf ByteArray.empty ((splitB 47 (p.data.toList.take i)).map bs) (xs.length : Int) = bs y := by
        unfold rdOf
        rw [h1]
        simp
      have e3 : p.extract (i : Int).toNat (((i + 1 : Nat) : Int)).toNat = bs [x] := by
        refine bs_eq ?_
        rw [Lib.extract_data]
        simp only [Int.toNat_natCast, Nat.add_sub_cancel_left]
        rw [List.drop_eq_getElem_cons hlt]
        have : p.data.toList[i] = x := by rw [List.getElem?_eq_getElem hlt] at hx; exact Option.some.inj hx
        simp [this]
      refine ev_neg (fun h => hc (u8_eq (y := 47) |>.1 h)) ?_
      simp only [e1, e2, e3]
      refine ev_pos (by omega) (ev_pos (by rw [h1, getLast_bs]; omega) (ev_pos (by omega) (ev_pos (by omega) (ev_pos (by rw [bs_size, bs_size]; simp; omega) ?_))))
      rw [et, h2] at ih
      have e4 : ((splitB 47 (p.data.toList.take i)).map bs).set (xs.length : Int).toNat (bs y ++ bs [x]) = (xs ++ [y ++ [x]]).map bs := by
        rw [h1]
        have : bs y ++ bs [x] = bs (y ++ [x]) := bs_eq (by simp [bs])
        simp [this]
      rw [e4]
      exact ih
theorem parts_f (p : ByteArray) (hz : p.size ≤ 1000000) : Ev (fun k => lighterref14_Parts.f k p) (splitS 47 p) := parts_ev p hz p.size 0 (by omega)

/-! ### nought -/
theorem nought_ev (p : ByteArray) (hz : p.size ≤ 1000000) : ∀ (d i : Nat), i + d = p.size →
    Ev (fun k => lighterref14_nought.l0 k p (i : Int)) (decide ((0 : UInt8) ∈ p.data.toList.drop i))
  | 0, i, hi => by
    refine Ev.step (fun _ => rfl) ?_
    refine ev_neg (by omega) (ev_eq ?_)
    rw [List.drop_eq_nil_of_le (by rw [← size_data]; omega)]
    rfl
  | d + 1, i, hi => by
    refine Ev.step (fun _ => rfl) ?_
    have hlt : i < p.data.toList.length := by rw [← size_data]; omega
    have ew : wrap64 ((i : Int) + 1) = ((i + 1 : Nat) : Int) := by rw [wrap_id (by omega) (by omega)]; omega
    have ih := nought_ev p hz d (i + 1) (by omega)
    refine ev_pos (by omega) (ev_pos (by omega) ?_)
    rw [bt_nat (List.getElem?_eq_getElem hlt), List.drop_eq_getElem_cons hlt]
    simp only [ew]
    by_cases hc : p.data.toList[i] = 0
    · exact ev_pos (by rw [hc]; rfl) (ev_eq (by simp [hc]))
    · refine ev_neg (fun h => hc (u8_eq (y := 0) |>.1 h)) ?_
      have : decide ((0 : UInt8) ∈ p.data.toList[i] :: p.data.toList.drop (i + 1)) = decide ((0 : UInt8) ∈ p.data.toList.drop (i + 1)) := by
        rw [decide_eq_decide, List.mem_cons]
        exact ⟨fun h => h.elim (fun e => absurd e.symm hc) id, .inr⟩
      rw [this]
      exact ih
theorem nought_f (p : ByteArray) (hz : p.size ≤ 1000000) : Ev (fun k => lighterref14_nought.f k p) (decide ((0 : UInt8) ∈ p.data.toList)) := nought_ev p hz p.size 0 (by omega)
theorem nought_index (l : List UInt8) : (0 ≤ Lib.indexByte l 0) ↔ (0 : UInt8) ∈ l := by
  have hge := Lib.indexByte_ge l 0
  constructor
  · intro h
    obtain ⟨h1, _⟩ := Lib.indexByte_some (l := l) (c := 0) (o := (Lib.indexByte l 0).toNat) (by omega)
    exact List.mem_of_getElem? h1
  · intro h
    by_cases hn : Lib.indexByte l 0 = -1
    · obtain ⟨k, hk⟩ := List.getElem?_of_mem h
      exact absurd hk (Lib.indexByte_none hn k)
    · omega

/-! ### joined -/
theorem joined_ev (xs : List ByteArray) (hl : xs.length ≤ 1000001) (hx : ∀ x ∈ xs, x.size ≤ 1000000) : ∀ (d i : Nat), i + d = xs.length →
    Ev (fun k => lighterref14_joined.l0 k xs (slashed (xs.take i)) (i : Int)) (slashed xs)
  | 0, i, hi => by
    refine Ev.step (fun _ => rfl) ?_
    refine ev_neg (by omega) (ev_eq ?_)
    rw [List.take_of_length_le (by omega)]
  | d + 1, i, hi => by
    refine Ev.step (fun _ => rfl) ?_
    have hlt : i < xs.length := by omega
    have ew : wrap64 ((i : Int) + 1) = ((i + 1 : Nat) : Int) := by rw [wrap_id (by omega) (by omega)]; omega
    have ih := joined_ev xs hl hx d (i + 1) (by omega)
    have er : rdOf ByteArray.empty xs (i : Int) = xs[i] := by unfold rdOf; simp [hlt]
    have et : xs.take (i + 1) = xs.take i ++ [xs[i]] := by rw [List.take_add_one, List.getElem?_eq_getElem hlt]; rfl
    have hxi : xs[i].size ≤ 1000000 := hx _ (List.getElem_mem _)
    have hjl : (slashed (xs.take i)).size ≤ 1000001 * 1000001 := by
      have h1 := join_le (M := 1000000) [47] ((xs.take i).map (·.data.toList)) (by
        intro y hy
        obtain ⟨z, hz1, rfl⟩ := List.mem_map.1 hy
        have := hx z (List.mem_of_mem_take hz1)
        rwa [size_data] at this)
      have h2 : (slashed (xs.take i)).size = (Lib.join ((xs.take i).map (·.data.toList)) [47]).length := bs_size _
      have h3 : ((xs.take i).map (·.data.toList)).length ≤ 1000001 := by simp; omega
      have h4 := Nat.mul_le_mul_right (1000000 + 1) h3
      simp only [List.length_singleton] at h1
      omega
    refine ev_pos (by omega) ?_
    simp only [er, ew]
    rw [et] at ih
    by_cases h0 : i = 0
    · subst h0
      refine ev_neg (by omega) (ev_pos (by omega) (ev_pos (by omega) ?_))
      have : slashed (xs.take 0) ++ xs[0] = slashed (xs.take 0 ++ [xs[0]]) := by
        refine (bs_eq ?_)
        simp [slashed, Lib.join_nil, Lib.join_one]
      rw [this]
      exact ih
    · refine ev_pos (by omega) (ev_pos (by omega) (ev_pos (by omega) (ev_pos (by rw [ByteArray.size_append]; have : (⟨#[47]⟩ : ByteArray).size = 1 := rfl; omega) ?_)))
      have : slashed (xs.take i) ++ (⟨#[47]⟩ : ByteArray) ++ xs[i] = slashed (xs.take i ++ [xs[i]]) := by
        refine (bs_eq ?_)
        have hne : (xs.take i).map (·.data.toList) ≠ [] := by
          intro h
          have := congrArg List.length h
          rw [List.length_map, List.length_take, List.length_nil] at this
          omega
        simp only [slashed, data_append, List.map_append, List.map_cons, List.map_nil]
        rw [join_snoc hne]
      rw [this]
      exact ih
theorem joined_f (xs : List ByteArray) (hl : xs.length ≤ 1000001) (hx : ∀ x ∈ xs, x.size ≤ 1000000) : Ev (fun k => lighterref14_joined.f k xs) (slashed xs) := by
  exact joined_ev xs hl hx xs.length 0 (by omega)
end Go.Proofs.YtoklancgpmnhcaaDoor.Hand

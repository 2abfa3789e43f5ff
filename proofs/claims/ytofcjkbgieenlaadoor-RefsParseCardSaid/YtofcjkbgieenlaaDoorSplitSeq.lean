/-
  strings.SplitSeq at a separator of one byte: the value that it hands back, and what that closure owes to a range over it. By an AI agent.
-/
import Derived.Test.YtofcjkbgieenlaaDoorRangeBox
import Derived.Test.YtofcjkbgieenlaaDoorSplitL
import Derived.Test.YtofcjkbgieenlaaDoorShelf12
import Derived.Lib.Hide
namespace Go.Proofs.YtofcjkbgieenlaaDoor.Hand
open Go.RowKit Go.Shelf
attribute [local go_sem] Oper.semAt_some

/-- What the three boxes hold. -/
def SplitBoxes (c : UInt8) (B : Nat) (W : World) (s : ByteArray) : Prop :=
  W.heap[B]? = some (.cells #[.string s] 9) ∧ W.heap[B + 1]? = some (.cells #[.string ⟨#[c]⟩] 9) ∧ W.heap[B + 2]? = some (.cells #[.int .i64 0] 3)

theorem cell_of_heap {W : World} {k : Nat} {v : Value} {e : TypeId} (h : W.heap[k]? = some (.cells #[v] e)) : W.cell? ⟨k, 0, none⟩ = some v := by simp [World.cell?, h]
theorem free_of_heap {W : World} {k : Nat} {v : Value} {e : TypeId} (h : W.heap[k]? = some (.cells #[v] e)) : W.frozen? ⟨k, 0, none⟩ = false := by simp [World.frozen?, h]

set_option maxHeartbeats 1000000 in
set_option maxRecDepth 100000 in
theorem splitSeq_calls (s sep : ByteArray) (w : World) :
    Calls Tryd.prog 63 #[.string s, .string sep, .int .i64 0] w fun e w' => e = .returned (.func (.func 79) #[] #[.pointer (some ⟨w.heap.size + 1, 0, none⟩), .pointer (some ⟨w.heap.size, 0, none⟩), .pointer (some ⟨w.heap.size + 2, 0, none⟩)]) ∧
      w' = ((w.alloc (.cells #[.string s] 9)).alloc (.cells #[.string sep] 9)).alloc (.cells #[.int .i64 0] 3) := by
  go_enter Tryd.func63, Tryd.ntmps63
  go_wp2
  go_ret
  exact ⟨rfl, rfl⟩

set_option maxHeartbeats 1000000 in
set_option maxRecDepth 100000 in
theorem SplitSeq_calls (s sep : ByteArray) (w : World) :
    Calls Tryd.prog 48 #[.string s, .string sep] w fun e w' => e = .returned (.func (.func 79) #[] #[.pointer (some ⟨w.heap.size + 1, 0, none⟩), .pointer (some ⟨w.heap.size, 0, none⟩), .pointer (some ⟨w.heap.size + 2, 0, none⟩)]) ∧
      w' = ((w.alloc (.cells #[.string s] 9)).alloc (.cells #[.string sep] 9)).alloc (.cells #[.int .i64 0] 3) := by
  go_enter Tryd.func48, Tryd.ntmps48
  go_wp2_with (go_at_call 63; refine (splitSeq_calls _ _ _).mono ?_; rintro e w' ⟨rfl, rfl⟩)
  go_ret
  exact ⟨rfl, rfl⟩

theorem BoxStep.set {B m k : Nat} {v : Value} {W : World} (hB : B ≤ k) (hk : k < B + m) : BoxStep B m W (W.setCell ⟨k, 0, none⟩ v) := by
  refine ⟨rfl, rfl, rfl, by simp [World.setCell], fun j hj => ?_⟩
  simp only [World.setCell]
  rw [Array.getElem?_modify]
  rw [if_neg (by omega)]

theorem SplitBoxes.set {c : UInt8} {B : Nat} {W : World} {s : ByteArray} (h : SplitBoxes c B W s) (t : ByteArray) : SplitBoxes c B (W.setCell ⟨B, 0, none⟩ (.string t)) t := by
  obtain ⟨h0, h1, h2⟩ := h
  refine ⟨?_, ?_, ?_⟩
  · simp only [World.setCell, Array.getElem?_modify]
    simp [h0]
  · simp only [World.setCell, Array.getElem?_modify]
    simp [h1]
  · simp only [World.setCell, Array.getElem?_modify]
    simp [h2]
theorem SplitBoxes.kept {c : UInt8} {B : Nat} {W W' : World} {s : ByteArray} (h : SplitBoxes c B W s) (k : BoxKept B 3 W W') : SplitBoxes c B W' s :=
  ⟨(k _ (by omega) (by omega)).trans h.1, (k _ (by omega) (by omega)).trans h.2.1, (k _ (by omega) (by omega)).trans h.2.2⟩

/-- How long the text in the box still is. -/
def boxLen (B : Nat) (W : World) : Nat := match W.cell? ⟨B, 0, none⟩ with | some (.string s) => s.size + 1 | _ => 0
theorem boxLen_of {c : UInt8} {B : Nat} {W : World} {s : ByteArray} (h : SplitBoxes c B W s) : boxLen B W = s.size + 1 := by
  unfold boxLen
  rw [cell_of_heap h.1]

set_option maxHeartbeats 4000000 in
set_option maxRecDepth 100000 in
theorem splitSeq1_in (n l B : Nat) (hn : 1 ≤ n) (c : UInt8) (s0 : ByteArray) (hs0 : s0.size ≤ 140737488351232) (xs : List ByteArray) (hxs : xs = splitS c s0) (J Jx : List ByteArray → World → Prop)
    (hJ : ∀ s A A', J s A → BoxStep B 3 A A' → J s A')
    (hY : ∀ pre x W, J pre W → pre ++ [x] <+: xs → YieldAt Fence.wide (n - 1) Tryd.prog l #[.string x] W fun e W' =>
      (e = .returned (.bool true) ∧ J (pre ++ [x]) W' ∧ BoxKept B 3 W W') ∨ (e = .returned (.bool false) ∧ Jx (pre ++ [x]) W'))
    (W : World) (hb : SplitBoxes c B W s0) (h0 : J [] W) :
    CallsIn Fence.wide n Tryd.prog 79 #[.func (.yield l) #[] #[], .pointer (some ⟨B + 1, 0, none⟩), .pointer (some ⟨B, 0, none⟩), .pointer (some ⟨B + 2, 0, none⟩)] W fun e W' => (∃ v, e = .returned v) ∧
      (J xs W' ∨ (∃ pre, pre <+: xs ∧ Jx pre W')) := by
  refine callsIn_of_wp Tryd.func79 rfl trivial ?_ rfl
  simp only [Tryd.ntmps79, List.size_toArray, List.length_cons, List.length_nil, Nat.reduceAdd, Nat.reduceSub, Array.replicate_succ, Array.replicate_zero, List.push_toArray, List.append_toArray, List.nil_append, List.cons_append]
  have c1 := cell_of_heap hb.2.1
  gi_wp2
  gi_loopw [7, 8] (fun i f wr => ∃ (pre : List ByteArray) (s : ByteArray), xs = pre ++ splitS c s ∧ s.size ≤ s0.size ∧ SplitBoxes c B wr s ∧ J pre wr)
    (fun _ _ wr => boxLen B wr)
  case atStart => exact ⟨[], s0, hxs, Nat.le_refl _, hb, h0⟩
  case round =>
    clear c1
    obtain ⟨pre, s, hx, hsz, hbr, hJr⟩ := hrel
    have c0 := cell_of_heap hbr.1
    have c1 := cell_of_heap hbr.2.1
    have c2 := cell_of_heap hbr.2.2
    have f0 := free_of_heap hbr.1
    have hge := Lib.indexByte_ge s.data.toList c
    by_cases hneg : Lib.indexByte s.data.toList c = -1
    · -- no such byte any more: the last part
      have hsp := splitS_none hneg
      rw [hsp] at hx
      have Hx := Lib.hid hx
      clear hx hsp
      obtain ⟨fn, tmps, assign, body, hy, hR⟩ := hY pre s wr hJr (by rw [Hx.out]; exact List.prefix_refl _)
      have hlt : decide (Lib.indexByte s.data.toList c < 0) = true := by rw [hneg]; rfl
      have Hn := Lib.hid hneg
      clear hneg
      gi_wp2_with (refine ⟨trivial, ?_⟩; (with_reducible refine (callsIn_wide.2 (Tryd.strings_Index_one s c _)).mono ?_); rintro e w' ⟨rfl, rfl⟩)
      gi_wp2
      refine hR.mono ?_
      rintro e W3 (⟨rfl, hJ3, hk3⟩ | ⟨rfl, hJx3⟩)
      · gi_wp2
        go_end0
        exact ⟨⟨_, rfl⟩, .inl (by rw [Hx.out]; exact hJ3)⟩
      · gi_wp2
        go_end0
        exact ⟨⟨_, rfl⟩, .inr ⟨_, by rw [Hx.out]; exact List.prefix_refl _, hJx3⟩⟩
    · -- one part more
      obtain ⟨i, hi⟩ : ∃ i : Nat, Lib.indexByte s.data.toList c = i := ⟨(Lib.indexByte s.data.toList c).toNat, by omega⟩
      have hlen := indexByte_lt hi
      have hsp := splitS_some hi
      rw [hsp] at hx
      have Hx := Lib.hid hx
      have hle : i < s.size := by show i < s.data.size; rw [← Array.length_toList]; exact hlen
      clear hx hsp hneg hge hlen
      obtain ⟨fn, tmps, assign, body, hy, hR⟩ := hY pre (s.extract 0 i) wr hJr (by rw [Hx.out]; exact ⟨splitS c (s.extract (i + 1) s.size), by rw [List.append_assoc]; rfl⟩)
      have Hi := Lib.hid hi
      clear hi
      have hlt : decide ((i : Int) < 0) = false := by simp
      gi_wp2_with (refine ⟨trivial, ?_⟩; (with_reducible refine (callsIn_wide.2 (Tryd.strings_Index_one s c _)).mono ?_); rintro e w' ⟨rfl, rfl⟩; rw [Hi.out])
      refine hR.mono ?_
      rintro e W3 (⟨rfl, hJ3, hk3⟩ | ⟨rfl, hJx3⟩)
      · have hb3 := hbr.kept hk3
        have c0' := cell_of_heap hb3.1
        have c1' := cell_of_heap hb3.2.1
        have f0' := free_of_heap hb3.1
        clear c0 c1 c2 f0
        gi_wp2
        go_roundw
        case rel => exact ⟨pre ++ [s.extract 0 i], s.extract (i + 1) s.size, by rw [Hx.out, List.append_assoc]; rfl, by simp; omega, hb3.set _, hJ _ _ _ hJ3 (BoxStep.set (by omega) (by omega))⟩
        case measure => rw [boxLen_of (hb3.set _), boxLen_of hbr]; simp; omega
      · gi_wp2
        refine bodyPost_ret (results_none rfl _ _ _) rfl ?_
        exact ⟨⟨_, rfl⟩, .inr ⟨_, by rw [Hx.out]; exact ⟨splitS c (s.extract (i + 1) s.size), by rw [List.append_assoc]; rfl⟩, hJx3⟩⟩

theorem splitSeq1_seq (n B : Nat) (hn : 1 ≤ n) (c : UInt8) (s : ByteArray) (hs : s.size ≤ 140737488351232) (w : World) (hb : SplitBoxes c B w s) :
    BoxSeq Fence.wide n Tryd.prog 79 #[.pointer (some ⟨B + 1, 0, none⟩), .pointer (some ⟨B, 0, none⟩), .pointer (some ⟨B + 2, 0, none⟩)] (fun x : ByteArray => #[Value.string x]) B 3 (splitS c s) w :=
  fun l J Jx W hW _ hJ _ hY h0 => splitSeq1_in n l B hn c s hs _ rfl J Jx hJ hY W (hb.kept hW) h0
end Go.Proofs.YtofcjkbgieenlaaDoor.Hand

/- Contracts of functions of the reference of names: Parse. By an AI agent. -/
import Derived.Test.YtofcjkbgieenlaaDoorRefsJ
namespace Go.Proofs.YtofcjkbgieenlaaDoor.PM
open Go Go.Proofs
set_option maxRecDepth 100000
set_option linter.unusedVariables false
set_option linter.unusedSimpArgs false

def zeroR : RefT := ⟨⟨#[]⟩, ⟨#[]⟩, ⟨#[]⟩, zerosL, false⟩
abbrev RefT.cells (r : RefT) : List Value := refL r.d r.p r.t r.x r.b
def refV (r : RefT × Int) : Value := .tuple ⟨[.agg ⟨r.1.cells⟩, .int .i64 r.2]⟩
def rend (r : RefT) : RefT × Int := bif rcheckS r != 0 then (zeroR, 10) else (r, 0)
def rfin (d p t : ByteArray) (x : List Int) (b : Bool) : RefT × Int :=
  bif isS d [100, 111, 99, 107, 101, 114, 46, 105, 111] && ((cutAll p 47).length : Int) == 1 then rend ⟨d, (ByteArray.mk #[108, 105, 98, 114, 97, 114, 121, 47]) ++ p, t, x, b⟩ else rend ⟨d, p, t, x, b⟩
def rdom (d p t : ByteArray) (x : List Int) (b : Bool) : RefT × Int :=
  bif isS d [] || isS d [105, 110, 100, 101, 120, 46, 100, 111, 99, 107, 101, 114, 46, 105, 111] then rfin (ByteArray.mk #[100, 111, 99, 107, 101, 114, 46, 105, 111]) p t x b else rfin d p t x b
def rmid (name t : ByteArray) (x : List Int) (b : Bool) : RefT × Int :=
  bif !isS (frontS name) [] then rdom (frontS name) (name.extract ((frontS name).size + 1) name.size) t x b else rdom (frontS name) name t x b
def lastOf (name : ByteArray) : ByteArray := (cutAll name 58).getD ((cutAll name 58).length - 1) ⟨#[]⟩
def rtag (name : ByteArray) (x : List Int) (b : Bool) : RefT × Int :=
  bif decide (((cutAll name 58).length : Int) > 1) && ((cutAll (lastOf name) 47).length : Int) == 1 then
    bif isS (lastOf name) [] then (zeroR, 10) else rmid (name.extract 0 (name.size - (lastOf name).size - 1)) (lastOf name) x b
  else bif !b then rmid name (ByteArray.mk #[108, 97, 116, 101, 115, 116]) x b else rmid name ⟨#[]⟩ x b
def nameOf (s : ByteArray) : ByteArray := (cutAll s 64).getD 0 ⟨#[]⟩
def pinOf (s : ByteArray) : ByteArray := s.extract ((nameOf s).size + 1) s.size
def rparse12 (s : ByteArray) : RefT × Int :=
  bif decide ((s.size : Int) > 200) then (zeroR, 3) else
  bif decide (((nameOf s).size : Int) < s.size) then
    bif rparseE (pinOf s) != 0 then (zeroR, 10) else rtag (nameOf s) (rparseX (pinOf s)) true
  else rtag (nameOf s) zerosL false
abbrev pt (n : Nat) : Value := .pointer (some ⟨n, 0, some 0⟩)
abbrev rowR (l : List Value) : VB := .row raw 36 [l] .own
/-- What Parse leaves. -/
def RetP (K : Kont) (r : RefT × Int) : Prop := ∀ l, K .ret [(2, pt 0), (3, .int .i64 r.2)] [rowR r.1.cells, rowR l]
def J25 : LSpec
  | [(2, .pointer (some ⟨0, 0, some 0⟩)), (4, .pointer (some ⟨1, 0, some 0⟩))], H, K => ∃ r : RefT, (H = [rowR zeroR.cells, rowR r.cells] ∧ RefOk r) ∧ RetP K (rend r)
  | _, _, _ => False
theorem J25_ok : CodeOk Tryd.prog Tryd.f10.ntmps (jn Tryd.f10 25) J25 := by
  refine join_ok (call := callOf [(16, pureS rcheckG)]) (hint := hints 10) (tb := noTab) hm (callOf_cons rcheck_ok.spec callOf_nil) (by kernel_rfl) (by repeat' first | exact trivial | constructor |  (intro _ h; cases h)) fun fr H K h => ?_
  unfold J25 at h
  split at h
  · obtain ⟨r, ⟨rfl, hr⟩, hK⟩ := h
    refine ⟨1, ?_⟩
    have hd := decI_digL hr.n
    have he : RefT.mk r.d r.p r.t (decI (digL r.x)) r.b = r := by rw [hd]
    refine to (R := (RefOk (RefT.mk r.d r.p r.t (decI (digL r.x)) r.b)) ∧ (bcase ((rcheckS (RefT.mk r.d r.p r.t (decI (digL r.x)) r.b)) != (0 : Int)) (K .ret [(2, (.pointer (some (Addr.mk 0 0 (some 0))))), (3, (.int .i64 (10 : Int)))] [(VB.row raw 36 [(refL (ByteArray.mk #[]) (ByteArray.mk #[]) (ByteArray.mk #[]) zerosL false)] .own), (VB.row raw 36 [(refL r.d r.p r.t r.x r.b)] .own)]) (K .ret [(2, (.pointer (some (Addr.mk 0 0 (some 0))))), (3, (.int .i64 (0 : Int)))] [(VB.row raw 36 [(refL r.d r.p r.t r.x r.b)] .own), (VB.row raw 36 [(refL r.d r.p r.t r.x r.b)] .own)]))) (by kernel_rfl) ?_
    rw [he]
    have := hK r.cells
    unfold rend at this
    refine ⟨hr, bcase_of (fun h => ?_) (fun h => ?_)⟩
    · rw [h] at this
      exact this
    · rw [h] at this
      exact this
  · exact h.elim
def J23 : LSpec
  | [(2, .pointer (some ⟨0, 0, some 0⟩)), (4, .pointer (some ⟨1, 0, some 0⟩))], H, K => ∃ r : RefT, (H = [rowR zeroR.cells, rowR r.cells] ∧ RefOk r ∧ r.p.size < 2 ^ 29) ∧ RetP K (rfin r.d r.p r.t r.x r.b)
  | _, _, _ => False
def tab25 : Tab := ⟨fun _ => none, fun | 25 => some J25 | _ => none⟩
theorem sz8 : (ByteArray.mk #[100, 111, 99, 107, 101, 114, 46, 105, 111]).size < 2 ^ 30 := by decide
theorem J23_ok : CodeOk Tryd.prog Tryd.f10.ntmps (jn Tryd.f10 23) J23 := by
  refine join_ok (call := callOf [(23, memS cutG)]) (hint := hints 10) (tb := tab25) hm (callOf_cons cut_ok.spec callOf_nil) (by kernel_rfl) (by repeat' first | exact trivial | constructor | (intro _ h; cases h; exact J25_ok) | (intro _ h; cases h)) fun fr H K h => ?_
  unfold J23 at h
  split at h
  · obtain ⟨r, ⟨rfl, hr, hp⟩, hK⟩ := h
    obtain ⟨k1, k2, k3, k4, k5⟩ := hr
    refine ⟨1, ?_⟩
    have hz : ∀ a b : ByteArray, (a ++ b).size = a.size + b.size := fun a b => ByteArray.size_append
    have h8 : (ByteArray.mk #[108, 105, 98, 114, 97, 114, 121, 47]).size = 8 := rfl
    refine to (R := bcase (r.d.toList == (ByteArray.mk #[100, 111, 99, 107, 101, 114, 46, 105, 111]).toList) ((r.p.size < 1099511627776) ∧ (bcase ((↑(cutAll r.p (47 : Int)).length : Int) == (1 : Int)) (need (decide ((8 + r.p.size) < 9223372036854775808)) (∃ (r_1 : RefT), ((([(VB.row raw 36 [(refL zeroR.d zeroR.p zeroR.t zeroR.x false)] .own), (VB.row raw 36 [(refL r.d ((ByteArray.mk #[108, 105, 98, 114, 97, 114, 121, 47]) ++ r.p) r.t r.x r.b)] .own)] = [(VB.row raw 36 [(refL zeroR.d zeroR.p zeroR.t zeroR.x false)] .own), (VB.row raw 36 [(refL r_1.d r_1.p r_1.t r_1.x r_1.b)] .own)]) ∧ (RefOk r_1)) ∧ (∀ (l : (List Value)), (K .ret [(2, (.pointer (some (Addr.mk 0 0 (some 0))))), (3, (.int .i64 (rend r_1).snd))] [(VB.row raw 36 [(refL (rend r_1).fst.d (rend r_1).fst.p (rend r_1).fst.t (rend r_1).fst.x (rend r_1).fst.b)] .own), (VB.row raw 36 [l] .own)]))))) (∃ (r_1 : RefT), ((([(VB.row raw 36 [(refL zeroR.d zeroR.p zeroR.t zeroR.x false)] .own), (VB.row raw 36 [(refL r.d r.p r.t r.x r.b)] .own)] = [(VB.row raw 36 [(refL zeroR.d zeroR.p zeroR.t zeroR.x false)] .own), (VB.row raw 36 [(refL r_1.d r_1.p r_1.t r_1.x r_1.b)] .own)]) ∧ (RefOk r_1)) ∧ (∀ (l : (List Value)), (K .ret [(2, (.pointer (some (Addr.mk 0 0 (some 0))))), (3, (.int .i64 (rend r_1).snd))] [(VB.row raw 36 [(refL (rend r_1).fst.d (rend r_1).fst.p (rend r_1).fst.t (rend r_1).fst.x (rend r_1).fst.b)] .own), (VB.row raw 36 [l] .own)])))))) (∃ (r_1 : RefT), ((([(VB.row raw 36 [(refL zeroR.d zeroR.p zeroR.t zeroR.x false)] .own), (VB.row raw 36 [(refL r.d r.p r.t r.x r.b)] .own)] = [(VB.row raw 36 [(refL zeroR.d zeroR.p zeroR.t zeroR.x false)] .own), (VB.row raw 36 [(refL r_1.d r_1.p r_1.t r_1.x r_1.b)] .own)]) ∧ (RefOk r_1)) ∧ (∀ (l : (List Value)), (K .ret [(2, (.pointer (some (Addr.mk 0 0 (some 0))))), (3, (.int .i64 (rend r_1).snd))] [(VB.row raw 36 [(refL (rend r_1).fst.d (rend r_1).fst.p (rend r_1).fst.t (rend r_1).fst.x (rend r_1).fst.b)] .own), (VB.row raw 36 [l] .own)]))))) (by kernel_rfl) ?_
    simp only [isS, rfin] at hK
    repeat' first | with_reducible exact trivial | with_reducible refine need_of (by first | first | with_reducible assumption | with_reducible exact pos_of (by assumption) | with_reducible exact pos_of' (by assumption) | omega | (simp only [ByteArray.size_append, sz1, decide_eq_true_eq, *]; omega) | decide | (simp only [Bool.and_true, Bool.and_eq_true, decide_eq_true_eq, ByteArray.size_extract, ByteArray.size_append, sz1, Int.toNat_natCast, List.getD_eq_getElem?_getD, beq_iff_eq, decide_eq_false_iff_not] at *; omega) | ((repeat' constructor) <;> first | rfl | first | with_reducible assumption | with_reducible exact pos_of (by assumption) | with_reducible exact pos_of' (by assumption) | omega | (simp only [ByteArray.size_append, sz1, decide_eq_true_eq, *]; omega) | decide | (simp only [Bool.and_true, Bool.and_eq_true, decide_eq_true_eq, ByteArray.size_extract, ByteArray.size_append, sz1, Int.toNat_natCast, List.getD_eq_getElem?_getD, beq_iff_eq, decide_eq_false_iff_not] at *; omega))) ?_ | with_reducible refine And.intro (by first | first | with_reducible assumption | with_reducible exact pos_of (by assumption) | with_reducible exact pos_of' (by assumption) | omega | (simp only [ByteArray.size_append, sz1, decide_eq_true_eq, *]; omega) | decide | (simp only [Bool.and_true, Bool.and_eq_true, decide_eq_true_eq, ByteArray.size_extract, ByteArray.size_append, sz1, Int.toNat_natCast, List.getD_eq_getElem?_getD, beq_iff_eq, decide_eq_false_iff_not] at *; omega) | ((repeat' constructor) <;> first | rfl | first | with_reducible assumption | with_reducible exact pos_of (by assumption) | with_reducible exact pos_of' (by assumption) | omega | (simp only [ByteArray.size_append, sz1, decide_eq_true_eq, *]; omega) | decide | (simp only [Bool.and_true, Bool.and_eq_true, decide_eq_true_eq, ByteArray.size_extract, ByteArray.size_append, sz1, Int.toNat_natCast, List.getD_eq_getElem?_getD, beq_iff_eq, decide_eq_false_iff_not] at *; omega))) ?_ | with_reducible refine bcase_not ?_ | with_reducible refine bcase_t (by assumption) ?_ | with_reducible refine bcase_f (by assumption) ?_ | (with_reducible refine bcase_of (fun hx => ?_) (fun hx => ?_) <;> try simp only [hx, bcase_tt, bcase_ff, Int.toNat_natCast, Bool.not_true, Bool.not_false, cond_true, cond_false, Bool.and_true, Bool.and_false, Bool.true_and, Bool.false_and, Bool.or_true, Bool.or_false, Bool.true_or, Bool.false_or] at hK)
    all_goals refine ⟨⟨_, _, _, _, _⟩, ⟨rfl, ?_⟩, hK⟩
    all_goals (constructor <;> dsimp only <;> first | assumption | (rw [hz, h8]; omega))
  · exact h.elim
def J21 : LSpec
  | [(2, .pointer (some ⟨0, 0, some 0⟩)), (4, .pointer (some ⟨1, 0, some 0⟩))], H, K => ∃ r : RefT, (H = [rowR zeroR.cells, rowR r.cells] ∧ RefOk r ∧ r.p.size < 2 ^ 29) ∧ RetP K (rdom r.d r.p r.t r.x r.b)
  | _, _, _ => False
def tab23j : Tab := ⟨fun _ => none, fun | 23 => some J23 | _ => none⟩
theorem J21_ok : CodeOk Tryd.prog Tryd.f10.ntmps (jn Tryd.f10 21) J21 := by
  refine join_ok (call := callOf [(23, memS cutG)]) (hint := hints 10) (tb := tab23j) hm (callOf_cons cut_ok.spec callOf_nil) (by kernel_rfl) (by repeat' first | exact trivial | constructor | (intro _ h; cases h; exact J23_ok) | (intro _ h; cases h)) fun fr H K h => ?_
  unfold J21 at h
  split at h
  · obtain ⟨r, ⟨rfl, hr, hp⟩, hK⟩ := h
    obtain ⟨k1, k2, k3, k4, k5⟩ := hr
    refine ⟨1, ?_⟩
    refine to (R := bcase (r.d.toList == (ByteArray.mk #[]).toList) (∃ (r_1 : RefT), ((([(VB.row raw 36 [(refL zeroR.d zeroR.p zeroR.t zeroR.x false)] .own), (VB.row raw 36 [(refL (ByteArray.mk #[100, 111, 99, 107, 101, 114, 46, 105, 111]) r.p r.t r.x r.b)] .own)] = [(VB.row raw 36 [(refL zeroR.d zeroR.p zeroR.t zeroR.x false)] .own), (VB.row raw 36 [(refL r_1.d r_1.p r_1.t r_1.x r_1.b)] .own)]) ∧ ((RefOk r_1) ∧ (r_1.p.size < 536870912))) ∧ (∀ (l : (List Value)), (K .ret [(2, (.pointer (some (Addr.mk 0 0 (some 0))))), (3, (.int .i64 (rfin r_1.d r_1.p r_1.t r_1.x r_1.b).snd))] [(VB.row raw 36 [(refL (rfin r_1.d r_1.p r_1.t r_1.x r_1.b).fst.d (rfin r_1.d r_1.p r_1.t r_1.x r_1.b).fst.p (rfin r_1.d r_1.p r_1.t r_1.x r_1.b).fst.t (rfin r_1.d r_1.p r_1.t r_1.x r_1.b).fst.x (rfin r_1.d r_1.p r_1.t r_1.x r_1.b).fst.b)] .own), (VB.row raw 36 [l] .own)])))) (bcase (r.d.toList == (ByteArray.mk #[105, 110, 100, 101, 120, 46, 100, 111, 99, 107, 101, 114, 46, 105, 111]).toList) (∃ (r_1 : RefT), ((([(VB.row raw 36 [(refL zeroR.d zeroR.p zeroR.t zeroR.x false)] .own), (VB.row raw 36 [(refL (ByteArray.mk #[100, 111, 99, 107, 101, 114, 46, 105, 111]) r.p r.t r.x r.b)] .own)] = [(VB.row raw 36 [(refL zeroR.d zeroR.p zeroR.t zeroR.x false)] .own), (VB.row raw 36 [(refL r_1.d r_1.p r_1.t r_1.x r_1.b)] .own)]) ∧ ((RefOk r_1) ∧ (r_1.p.size < 536870912))) ∧ (∀ (l : (List Value)), (K .ret [(2, (.pointer (some (Addr.mk 0 0 (some 0))))), (3, (.int .i64 (rfin r_1.d r_1.p r_1.t r_1.x r_1.b).snd))] [(VB.row raw 36 [(refL (rfin r_1.d r_1.p r_1.t r_1.x r_1.b).fst.d (rfin r_1.d r_1.p r_1.t r_1.x r_1.b).fst.p (rfin r_1.d r_1.p r_1.t r_1.x r_1.b).fst.t (rfin r_1.d r_1.p r_1.t r_1.x r_1.b).fst.x (rfin r_1.d r_1.p r_1.t r_1.x r_1.b).fst.b)] .own), (VB.row raw 36 [l] .own)])))) (∃ (r_1 : RefT), ((([(VB.row raw 36 [(refL zeroR.d zeroR.p zeroR.t zeroR.x false)] .own), (VB.row raw 36 [(refL r.d r.p r.t r.x r.b)] .own)] = [(VB.row raw 36 [(refL zeroR.d zeroR.p zeroR.t zeroR.x false)] .own), (VB.row raw 36 [(refL r_1.d r_1.p r_1.t r_1.x r_1.b)] .own)]) ∧ ((RefOk r_1) ∧ (r_1.p.size < 536870912))) ∧ (∀ (l : (List Value)), (K .ret [(2, (.pointer (some (Addr.mk 0 0 (some 0))))), (3, (.int .i64 (rfin r_1.d r_1.p r_1.t r_1.x r_1.b).snd))] [(VB.row raw 36 [(refL (rfin r_1.d r_1.p r_1.t r_1.x r_1.b).fst.d (rfin r_1.d r_1.p r_1.t r_1.x r_1.b).fst.p (rfin r_1.d r_1.p r_1.t r_1.x r_1.b).fst.t (rfin r_1.d r_1.p r_1.t r_1.x r_1.b).fst.x (rfin r_1.d r_1.p r_1.t r_1.x r_1.b).fst.b)] .own), (VB.row raw 36 [l] .own)])))))) (by kernel_rfl) ?_
    simp only [isS, rdom] at hK
    repeat' first | with_reducible exact trivial | with_reducible refine need_of (by first | first | with_reducible assumption | with_reducible exact pos_of (by assumption) | with_reducible exact pos_of' (by assumption) | omega | (simp only [ByteArray.size_append, sz1, decide_eq_true_eq, *]; omega) | decide | (simp only [Bool.and_true, Bool.and_eq_true, decide_eq_true_eq, ByteArray.size_extract, ByteArray.size_append, sz1, Int.toNat_natCast, List.getD_eq_getElem?_getD, beq_iff_eq, decide_eq_false_iff_not] at *; omega) | ((repeat' constructor) <;> first | rfl | first | with_reducible assumption | with_reducible exact pos_of (by assumption) | with_reducible exact pos_of' (by assumption) | omega | (simp only [ByteArray.size_append, sz1, decide_eq_true_eq, *]; omega) | decide | (simp only [Bool.and_true, Bool.and_eq_true, decide_eq_true_eq, ByteArray.size_extract, ByteArray.size_append, sz1, Int.toNat_natCast, List.getD_eq_getElem?_getD, beq_iff_eq, decide_eq_false_iff_not] at *; omega))) ?_ | with_reducible refine And.intro (by first | first | with_reducible assumption | with_reducible exact pos_of (by assumption) | with_reducible exact pos_of' (by assumption) | omega | (simp only [ByteArray.size_append, sz1, decide_eq_true_eq, *]; omega) | decide | (simp only [Bool.and_true, Bool.and_eq_true, decide_eq_true_eq, ByteArray.size_extract, ByteArray.size_append, sz1, Int.toNat_natCast, List.getD_eq_getElem?_getD, beq_iff_eq, decide_eq_false_iff_not] at *; omega) | ((repeat' constructor) <;> first | rfl | first | with_reducible assumption | with_reducible exact pos_of (by assumption) | with_reducible exact pos_of' (by assumption) | omega | (simp only [ByteArray.size_append, sz1, decide_eq_true_eq, *]; omega) | decide | (simp only [Bool.and_true, Bool.and_eq_true, decide_eq_true_eq, ByteArray.size_extract, ByteArray.size_append, sz1, Int.toNat_natCast, List.getD_eq_getElem?_getD, beq_iff_eq, decide_eq_false_iff_not] at *; omega))) ?_ | with_reducible refine bcase_not ?_ | with_reducible refine bcase_t (by assumption) ?_ | with_reducible refine bcase_f (by assumption) ?_ | (with_reducible refine bcase_of (fun hx => ?_) (fun hx => ?_) <;> try simp only [hx, bcase_tt, bcase_ff, Int.toNat_natCast, Bool.not_true, Bool.not_false, cond_true, cond_false, Bool.and_true, Bool.and_false, Bool.true_and, Bool.false_and, Bool.or_true, Bool.or_false, Bool.true_or, Bool.false_or] at hK)
    all_goals refine ⟨⟨_, _, _, _, _⟩, ⟨rfl, ?_⟩, hK⟩
    all_goals (refine ⟨?_, ?_⟩ <;> first | assumption | (constructor <;> dsimp only <;> first | assumption | exact sz8))
  · exact h.elim
def J18 : LSpec
  | [(2, .pointer (some ⟨0, 0, some 0⟩)), (4, .pointer (some ⟨1, 0, some 0⟩)), (5, .string name)], H, K => ∃ r : RefT, (H = [rowR zeroR.cells, rowR r.cells] ∧ RefOk r ∧ name.size < 2 ^ 29) ∧ RetP K (rmid name r.t r.x r.b)
  | _, _, _ => False
def tab21 : Tab := ⟨fun _ => none, fun | 21 => some J21 | _ => none⟩
theorem frontS_room (s : ByteArray) : (frontS s).size ≤ s.size ∧ ((frontS s).size + 1 ≤ s.size ∨ frontS s = ⟨#[]⟩) := by
  have h : ((cutAll s 47).getD 0 (ByteArray.mk #[])).size + (cutAll s 47).length ≤ s.size + 1 := cutAll_room s 47 0
  have hl := cutAll_len s 47
  unfold frontS
  cases hc : decide (((cutAll s 47).length : Int) > 1) with
  | false => rw [Bool.false_and]; exact ⟨Nat.zero_le _, .inr rfl⟩
  | true =>
    rw [Bool.true_and]
    have := of_decide_eq_true hc
    cases (decide (((cutAll ((cutAll s 47).getD 0 (ByteArray.mk #[])) 46).length : Int) > 1) || (decide (((cutAll ((cutAll s 47).getD 0 (ByteArray.mk #[])) 58).length : Int) > 1) ||
      isS ((cutAll s 47).getD 0 (ByteArray.mk #[])) [108, 111, 99, 97, 108, 104, 111, 115, 116])) with
    | false => exact ⟨Nat.zero_le _, .inr rfl⟩
    | true => exact ⟨by show ((cutAll s 47).getD 0 _).size ≤ _; omega, .inl (by show ((cutAll s 47).getD 0 _).size + 1 ≤ _; omega)⟩
theorem J18_ok : CodeOk Tryd.prog Tryd.f10.ntmps (jn Tryd.f10 18) J18 := by
  refine join_ok (call := callOf [(25, pureS frontG)]) (hint := hints 10) (tb := tab21) hm (callOf_cons front_ok.spec callOf_nil) (by kernel_rfl) (by repeat' first | exact trivial | constructor | (intro _ h; cases h; exact J21_ok) | (intro _ h; cases h)) fun fr H K h => ?_
  unfold J18 at h
  split at h
  · rename_i name
    obtain ⟨r, ⟨rfl, hr, hp⟩, hK⟩ := h
    obtain ⟨k1, k2, k3, k4, k5⟩ := hr
    refine ⟨1, ?_⟩
    have hf := frontS_room name
    have hw : IntKind.i64.wrap ((↑(frontS name).size : Int) + (1 : Int)) = (((frontS name).size + 1 : Nat) : Int) := wrap_id (by omega) (by omega)
    refine to (R := (name.size < 1099511627776) ∧ (bcase (!((frontS name).toList == (ByteArray.mk #[]).toList)) (need ((decide ((0 : Int) ≤ (IntKind.i64.wrap ((↑(frontS name).size : Int) + (1 : Int))))) && ((decide ((IntKind.i64.wrap ((↑(frontS name).size : Int) + (1 : Int))) ≤ (↑name.size : Int))) && (decide ((↑name.size : Int) ≤ (↑name.size : Int))))) (∃ (r_1 : RefT), ((([(VB.row raw 36 [(refL zeroR.d zeroR.p zeroR.t zeroR.x false)] .own), (VB.row raw 36 [(refL (frontS name) (name.extract (IntKind.i64.wrap ((↑(frontS name).size : Int) + (1 : Int))).toNat (↑name.size : Int).toNat) r.t r.x r.b)] .own)] = [(VB.row raw 36 [(refL zeroR.d zeroR.p zeroR.t zeroR.x false)] .own), (VB.row raw 36 [(refL r_1.d r_1.p r_1.t r_1.x r_1.b)] .own)]) ∧ ((RefOk r_1) ∧ (r_1.p.size < 536870912))) ∧ (∀ (l : (List Value)), (K .ret [(2, (.pointer (some (Addr.mk 0 0 (some 0))))), (3, (.int .i64 (rdom r_1.d r_1.p r_1.t r_1.x r_1.b).snd))] [(VB.row raw 36 [(refL (rdom r_1.d r_1.p r_1.t r_1.x r_1.b).fst.d (rdom r_1.d r_1.p r_1.t r_1.x r_1.b).fst.p (rdom r_1.d r_1.p r_1.t r_1.x r_1.b).fst.t (rdom r_1.d r_1.p r_1.t r_1.x r_1.b).fst.x (rdom r_1.d r_1.p r_1.t r_1.x r_1.b).fst.b)] .own), (VB.row raw 36 [l] .own)]))))) (∃ (r_1 : RefT), ((([(VB.row raw 36 [(refL zeroR.d zeroR.p zeroR.t zeroR.x false)] .own), (VB.row raw 36 [(refL (frontS name) name r.t r.x r.b)] .own)] = [(VB.row raw 36 [(refL zeroR.d zeroR.p zeroR.t zeroR.x false)] .own), (VB.row raw 36 [(refL r_1.d r_1.p r_1.t r_1.x r_1.b)] .own)]) ∧ ((RefOk r_1) ∧ (r_1.p.size < 536870912))) ∧ (∀ (l : (List Value)), (K .ret [(2, (.pointer (some (Addr.mk 0 0 (some 0))))), (3, (.int .i64 (rdom r_1.d r_1.p r_1.t r_1.x r_1.b).snd))] [(VB.row raw 36 [(refL (rdom r_1.d r_1.p r_1.t r_1.x r_1.b).fst.d (rdom r_1.d r_1.p r_1.t r_1.x r_1.b).fst.p (rdom r_1.d r_1.p r_1.t r_1.x r_1.b).fst.t (rdom r_1.d r_1.p r_1.t r_1.x r_1.b).fst.x (rdom r_1.d r_1.p r_1.t r_1.x r_1.b).fst.b)] .own), (VB.row raw 36 [l] .own)])))))) (by kernel_rfl) ?_
    simp only [hw, Int.toNat_natCast]
    simp only [isS, rmid] at hK
    have f1 : (frontS name).size < 2 ^ 30 := by omega
    have f2 : name.size < 2 ^ 30 := by omega
    have f3 : (name.extract ((frontS name).size + 1) name.size).size < 2 ^ 29 := by rw [ByteArray.size_extract]; omega
    have f4 : (name.extract ((frontS name).size + 1) name.size).size < 2 ^ 30 := by omega
    refine ⟨by omega, bcase_not (bcase_of (fun hx => ?_) (fun hx => ?_))⟩
    · try simp only [hx, bcase_tt, bcase_ff, Int.toNat_natCast, Bool.not_true, Bool.not_false, cond_true, cond_false, Bool.and_true, Bool.and_false, Bool.true_and, Bool.false_and, Bool.or_true, Bool.or_false, Bool.true_or, Bool.false_or] at hK
      exact ⟨⟨frontS name, name, r.t, r.x, r.b⟩, ⟨rfl, ⟨f1, f2, k3, k4, k5⟩, hp⟩, hK⟩
    · try simp only [hx, bcase_tt, bcase_ff, Int.toNat_natCast, Bool.not_true, Bool.not_false, cond_true, cond_false, Bool.and_true, Bool.and_false, Bool.true_and, Bool.false_and, Bool.or_true, Bool.or_false, Bool.true_or, Bool.false_or] at hK
      rcases hf.2 with h1 | h1
      · exact need_of (by simp; omega) ⟨⟨frontS name, _, r.t, r.x, r.b⟩, ⟨rfl, ⟨f1, f4, k3, k4, k5⟩, f3⟩, hK⟩
      · rw [h1] at hx
        exact absurd hx (by simp)
  · exact h.elim
theorem lastOf_room (s : ByteArray) : (lastOf s).size + (cutAll s 58).length ≤ s.size + 1 := cutAll_room s 58 _
theorem J10_mem (s : ByteArray) : (lastOf s).size ≤ s.size := cutAll_size s 58 _
/-- What Parse leaves behind a name's tag. -/
def RtagP (K : Kont) (name : ByteArray) (x : List Int) (b : Bool) : Prop :=
  bcase (decide (((cutAll name 58).length : Int) > 1) && ((cutAll (lastOf name) 47).length : Int) == 1)
    (bcase (isS (lastOf name) []) (∀ l xs ys, K .ret [(2, pt 0), (3, .int .i64 10)] [rowR zeroR.cells, rowR l, .row strC 1 xs .own, .row strC 1 ys .own])
      (RetP K (rmid (name.extract 0 (name.size - (lastOf name).size - 1)) (lastOf name) x b)))
    (bcase b (RetP K (rmid name ⟨#[]⟩ x b)) (RetP K (rmid name (ByteArray.mk #[108, 97, 116, 101, 115, 116]) x b)))
def J10 : LSpec
  | [(2, .pointer (some ⟨0, 0, some 0⟩)), (4, .pointer (some ⟨1, 0, some 0⟩)), (5, .string name)], H, K => ∃ r : RefT, (H = [rowR zeroR.cells, rowR r.cells] ∧ RefOk r ∧ r.t = ⟨#[]⟩ ∧ name.size < 2 ^ 29) ∧ RtagP K name r.x r.b
  | _, _, _ => False
def tab18 : Tab := ⟨fun _ => none, fun | 18 => some J18 | _ => none⟩
theorem J10_ok : CodeOk Tryd.prog Tryd.f10.ntmps (jn Tryd.f10 10) J10 := by
  refine join_ok (call := callOf [(23, memS cutG)]) (hint := hints 10) (tb := tab18) hm (callOf_cons cut_ok.spec callOf_nil) (by kernel_rfl) (by repeat' first | exact trivial | constructor | (intro _ h; cases h; exact J18_ok) | (intro _ h; cases h)) fun fr H K h => ?_
  unfold J10 at h
  split at h
  · rename_i name
    obtain ⟨⟨d, p, t, x, b⟩, ⟨rfl, hr, hp, hn⟩, hK⟩ := h
    obtain ⟨k1, k2, k3, k4, k5⟩ := hr
    dsimp only at k1 k2 k3 k4 k5 hp hK
    refine ⟨1, ?_⟩
    have hl := cutAll_len name 58
    have hw : IntKind.i64.wrap ((↑(cutAll name 58).length : Int) - (1 : Int)) = (((cutAll name 58).length - 1 : Nat) : Int) := by
      rw [show ((↑(cutAll name 58).length : Int) - 1) = (((cutAll name 58).length - 1 : Nat) : Int) by omega]
      exact wrap_id (by omega) (by omega)
    have hr := lastOf_room name
    have hm := J10_mem name
    have hlast : (cutAll name 58).getD (0 + ((cutAll name 58).length - 1)) (ByteArray.mk #[]) = lastOf name := by rw [Nat.zero_add]; rfl
    refine to (R := (name.size < 1099511627776) ∧ (need ((decide ((0 : Int) ≤ (IntKind.i64.wrap ((↑(cutAll name (58 : Int)).length : Int) - (1 : Int))))) && (decide ((IntKind.i64.wrap ((↑(cutAll name (58 : Int)).length : Int) - (1 : Int))) < (↑(cutAll name (58 : Int)).length : Int)))) (need ((decide ((0 + (IntKind.i64.wrap ((↑(cutAll name (58 : Int)).length : Int) - (1 : Int))).toNat) < (cutAll name (58 : Int)).length)) && true) (bcase (decide ((↑(cutAll name (58 : Int)).length : Int) > (1 : Int))) (((ByteArray.size ((cutAll name (58 : Int)).getD (0 + (IntKind.i64.wrap ((↑(cutAll name (58 : Int)).length : Int) - (1 : Int))).toNat) (ByteArray.mk #[]))) < 1099511627776) ∧ (bcase ((↑(cutAll ((cutAll name (58 : Int)).getD (0 + (IntKind.i64.wrap ((↑(cutAll name (58 : Int)).length : Int) - (1 : Int))).toNat) (ByteArray.mk #[])) (47 : Int)).length : Int) == (1 : Int)) (bcase ((ByteArray.toList ((cutAll name (58 : Int)).getD (0 + (IntKind.i64.wrap ((↑(cutAll name (58 : Int)).length : Int) - (1 : Int))).toNat) (ByteArray.mk #[]))) == (ByteArray.mk #[]).toList) (K .ret [(2, (.pointer (some (Addr.mk 0 0 (some 0))))), (3, (.int .i64 (10 : Int)))] [(VB.row raw 36 [(refL (ByteArray.mk #[]) (ByteArray.mk #[]) (ByteArray.mk #[]) zerosL false)] .own), (VB.row raw 36 [(refL (RefT.mk d p t x b).d (RefT.mk d p t x b).p (RefT.mk d p t x b).t (RefT.mk d p t x b).x (RefT.mk d p t x b).b)] .own), (VB.row strC 1 (cutAll name (58 : Int)) .own), (VB.row strC 1 (cutAll ((cutAll name (58 : Int)).getD (0 + (IntKind.i64.wrap ((↑(cutAll name (58 : Int)).length : Int) - (1 : Int))).toNat) (ByteArray.mk #[])) (47 : Int)) .own)]) (need (((decide ((0 : Int) ≤ (IntKind.i64.wrap ((IntKind.i64.wrap ((↑name.size : Int) - (↑(ByteArray.size ((cutAll name (58 : Int)).getD (0 + (IntKind.i64.wrap ((↑(cutAll name (58 : Int)).length : Int) - (1 : Int))).toNat) (ByteArray.mk #[]))) : Int))) - (1 : Int))))) && (decide ((IntKind.i64.wrap ((IntKind.i64.wrap ((↑name.size : Int) - (↑(ByteArray.size ((cutAll name (58 : Int)).getD (0 + (IntKind.i64.wrap ((↑(cutAll name (58 : Int)).length : Int) - (1 : Int))).toNat) (ByteArray.mk #[]))) : Int))) - (1 : Int))) ≤ (↑name.size : Int)))) && true) (∃ (r : RefT), ((([(VB.row raw 36 [(refL zeroR.d zeroR.p zeroR.t zeroR.x false)] .own), (VB.row raw 36 [(refL (RefT.mk d p t x b).d (RefT.mk d p t x b).p ((cutAll name (58 : Int)).getD (0 + (IntKind.i64.wrap ((↑(cutAll name (58 : Int)).length : Int) - (1 : Int))).toNat) (ByteArray.mk #[])) (RefT.mk d p t x b).x (RefT.mk d p t x b).b)] .own)] = [(VB.row raw 36 [(refL zeroR.d zeroR.p zeroR.t zeroR.x false)] .own), (VB.row raw 36 [(refL r.d r.p r.t r.x r.b)] .own)]) ∧ ((RefOk r) ∧ ((name.extract 0 (IntKind.i64.wrap ((IntKind.i64.wrap ((↑name.size : Int) - (↑(ByteArray.size ((cutAll name (58 : Int)).getD (0 + (IntKind.i64.wrap ((↑(cutAll name (58 : Int)).length : Int) - (1 : Int))).toNat) (ByteArray.mk #[]))) : Int))) - (1 : Int))).toNat).size < 536870912))) ∧ (∀ (l : (List Value)), (K .ret [(2, (.pointer (some (Addr.mk 0 0 (some 0))))), (3, (.int .i64 (rmid (name.extract 0 (IntKind.i64.wrap ((IntKind.i64.wrap ((↑name.size : Int) - (↑(ByteArray.size ((cutAll name (58 : Int)).getD (0 + (IntKind.i64.wrap ((↑(cutAll name (58 : Int)).length : Int) - (1 : Int))).toNat) (ByteArray.mk #[]))) : Int))) - (1 : Int))).toNat) r.t r.x r.b).snd))] [(VB.row raw 36 [(refL (rmid (name.extract 0 (IntKind.i64.wrap ((IntKind.i64.wrap ((↑name.size : Int) - (↑(ByteArray.size ((cutAll name (58 : Int)).getD (0 + (IntKind.i64.wrap ((↑(cutAll name (58 : Int)).length : Int) - (1 : Int))).toNat) (ByteArray.mk #[]))) : Int))) - (1 : Int))).toNat) r.t r.x r.b).fst.d (rmid (name.extract 0 (IntKind.i64.wrap ((IntKind.i64.wrap ((↑name.size : Int) - (↑(ByteArray.size ((cutAll name (58 : Int)).getD (0 + (IntKind.i64.wrap ((↑(cutAll name (58 : Int)).length : Int) - (1 : Int))).toNat) (ByteArray.mk #[]))) : Int))) - (1 : Int))).toNat) r.t r.x r.b).fst.p (rmid (name.extract 0 (IntKind.i64.wrap ((IntKind.i64.wrap ((↑name.size : Int) - (↑(ByteArray.size ((cutAll name (58 : Int)).getD (0 + (IntKind.i64.wrap ((↑(cutAll name (58 : Int)).length : Int) - (1 : Int))).toNat) (ByteArray.mk #[]))) : Int))) - (1 : Int))).toNat) r.t r.x r.b).fst.t (rmid (name.extract 0 (IntKind.i64.wrap ((IntKind.i64.wrap ((↑name.size : Int) - (↑(ByteArray.size ((cutAll name (58 : Int)).getD (0 + (IntKind.i64.wrap ((↑(cutAll name (58 : Int)).length : Int) - (1 : Int))).toNat) (ByteArray.mk #[]))) : Int))) - (1 : Int))).toNat) r.t r.x r.b).fst.x (rmid (name.extract 0 (IntKind.i64.wrap ((IntKind.i64.wrap ((↑name.size : Int) - (↑(ByteArray.size ((cutAll name (58 : Int)).getD (0 + (IntKind.i64.wrap ((↑(cutAll name (58 : Int)).length : Int) - (1 : Int))).toNat) (ByteArray.mk #[]))) : Int))) - (1 : Int))).toNat) r.t r.x r.b).fst.b)] .own), (VB.row raw 36 [l] .own)])))))) (bcase (!(RefT.mk d p t x b).b) (∃ (r : RefT), ((([(VB.row raw 36 [(refL zeroR.d zeroR.p zeroR.t zeroR.x false)] .own), (VB.row raw 36 [(refL (RefT.mk d p t x b).d (RefT.mk d p t x b).p (ByteArray.mk #[108, 97, 116, 101, 115, 116]) (RefT.mk d p t x b).x (RefT.mk d p t x b).b)] .own)] = [(VB.row raw 36 [(refL zeroR.d zeroR.p zeroR.t zeroR.x false)] .own), (VB.row raw 36 [(refL r.d r.p r.t r.x r.b)] .own)]) ∧ ((RefOk r) ∧ (name.size < 536870912))) ∧ (∀ (l : (List Value)), (K .ret [(2, (.pointer (some (Addr.mk 0 0 (some 0))))), (3, (.int .i64 (rmid name r.t r.x r.b).snd))] [(VB.row raw 36 [(refL (rmid name r.t r.x r.b).fst.d (rmid name r.t r.x r.b).fst.p (rmid name r.t r.x r.b).fst.t (rmid name r.t r.x r.b).fst.x (rmid name r.t r.x r.b).fst.b)] .own), (VB.row raw 36 [l] .own)])))) (∃ (r : RefT), ((([(VB.row raw 36 [(refL zeroR.d zeroR.p zeroR.t zeroR.x false)] .own), (VB.row raw 36 [(refL (RefT.mk d p t x b).d (RefT.mk d p t x b).p (RefT.mk d p t x b).t (RefT.mk d p t x b).x (RefT.mk d p t x b).b)] .own)] = [(VB.row raw 36 [(refL zeroR.d zeroR.p zeroR.t zeroR.x false)] .own), (VB.row raw 36 [(refL r.d r.p r.t r.x r.b)] .own)]) ∧ ((RefOk r) ∧ (name.size < 536870912))) ∧ (∀ (l : (List Value)), (K .ret [(2, (.pointer (some (Addr.mk 0 0 (some 0))))), (3, (.int .i64 (rmid name r.t r.x r.b).snd))] [(VB.row raw 36 [(refL (rmid name r.t r.x r.b).fst.d (rmid name r.t r.x r.b).fst.p (rmid name r.t r.x r.b).fst.t (rmid name r.t r.x r.b).fst.x (rmid name r.t r.x r.b).fst.b)] .own), (VB.row raw 36 [l] .own)]))))))) (bcase (!(RefT.mk d p t x b).b) (∃ (r : RefT), ((([(VB.row raw 36 [(refL zeroR.d zeroR.p zeroR.t zeroR.x false)] .own), (VB.row raw 36 [(refL (RefT.mk d p t x b).d (RefT.mk d p t x b).p (ByteArray.mk #[108, 97, 116, 101, 115, 116]) (RefT.mk d p t x b).x (RefT.mk d p t x b).b)] .own)] = [(VB.row raw 36 [(refL zeroR.d zeroR.p zeroR.t zeroR.x false)] .own), (VB.row raw 36 [(refL r.d r.p r.t r.x r.b)] .own)]) ∧ ((RefOk r) ∧ (name.size < 536870912))) ∧ (∀ (l : (List Value)), (K .ret [(2, (.pointer (some (Addr.mk 0 0 (some 0))))), (3, (.int .i64 (rmid name r.t r.x r.b).snd))] [(VB.row raw 36 [(refL (rmid name r.t r.x r.b).fst.d (rmid name r.t r.x r.b).fst.p (rmid name r.t r.x r.b).fst.t (rmid name r.t r.x r.b).fst.x (rmid name r.t r.x r.b).fst.b)] .own), (VB.row raw 36 [l] .own)])))) (∃ (r : RefT), ((([(VB.row raw 36 [(refL zeroR.d zeroR.p zeroR.t zeroR.x false)] .own), (VB.row raw 36 [(refL (RefT.mk d p t x b).d (RefT.mk d p t x b).p (RefT.mk d p t x b).t (RefT.mk d p t x b).x (RefT.mk d p t x b).b)] .own)] = [(VB.row raw 36 [(refL zeroR.d zeroR.p zeroR.t zeroR.x false)] .own), (VB.row raw 36 [(refL r.d r.p r.t r.x r.b)] .own)]) ∧ ((RefOk r) ∧ (name.size < 536870912))) ∧ (∀ (l : (List Value)), (K .ret [(2, (.pointer (some (Addr.mk 0 0 (some 0))))), (3, (.int .i64 (rmid name r.t r.x r.b).snd))] [(VB.row raw 36 [(refL (rmid name r.t r.x r.b).fst.d (rmid name r.t r.x r.b).fst.p (rmid name r.t r.x r.b).fst.t (rmid name r.t r.x r.b).fst.x (rmid name r.t r.x r.b).fst.b)] .own), (VB.row raw 36 [l] .own)]))))))))) (by kernel_rfl) ?_
    simp only [hw, Int.toNat_natCast, hlast]
    have f2 : (lastOf name).size < 2 ^ 30 := by omega
    have f3 : (name.extract 0 (name.size - (lastOf name).size - 1)).size < 2 ^ 29 := by rw [ByteArray.size_extract]; omega
    unfold RtagP at hK
    have leafB : (bcase b (RetP K (rmid name ⟨#[]⟩ x b)) (RetP K (rmid name (ByteArray.mk #[108, 97, 116, 101, 115, 116]) x b))) → (bcase (!b) (∃ r : RefT, (([rowR zeroR.cells, rowR (refL d p (ByteArray.mk #[108, 97, 116, 101, 115, 116]) x b)] = [rowR zeroR.cells, rowR r.cells]) ∧ RefOk r ∧ name.size < 536870912) ∧ RetP K (rmid name r.t r.x r.b))
        (∃ r : RefT, (([rowR zeroR.cells, rowR (refL d p t x b)] = [rowR zeroR.cells, rowR r.cells]) ∧ RefOk r ∧ name.size < 536870912) ∧ RetP K (rmid name r.t r.x r.b))) := fun hq => by
      refine bcase_not (bcase_of (fun h1 => ?_) (fun h1 => ?_))
      · rw [h1, bcase_tt] at hq
        subst hp
        exact ⟨⟨d, p, ⟨#[]⟩, x, b⟩, ⟨rfl, ⟨k1, k2, k3, k4, k5⟩, hn⟩, by rw [h1]; exact hq⟩
      · rw [h1, bcase_ff] at hq
        exact ⟨⟨d, p, (ByteArray.mk #[108, 97, 116, 101, 115, 116]), x, b⟩, ⟨rfl, ⟨k1, k2, by show (6 : Nat) < 2 ^ 30; omega, k4, k5⟩, hn⟩, by rw [h1]; exact hq⟩
    refine ⟨by omega, need_of (by simp; omega) (need_of (by simp; omega) (bcase_of (fun h1 => ?_) (fun h1 => ?_)))⟩
    · try simp only [h1, bcase_tt, bcase_ff, Int.toNat_natCast, Bool.not_true, Bool.not_false, cond_true, cond_false, Bool.and_true, Bool.and_false, Bool.true_and, Bool.false_and, Bool.or_true, Bool.or_false, Bool.true_or, Bool.false_or] at hK
      have h1' := of_decide_eq_true h1
      refine ⟨by omega, bcase_of (fun h2 => ?_) (fun h2 => ?_)⟩
      · try simp only [h2, bcase_tt, bcase_ff, Int.toNat_natCast, Bool.not_true, Bool.not_false, cond_true, cond_false, Bool.and_true, Bool.and_false, Bool.true_and, Bool.false_and, Bool.or_true, Bool.or_false, Bool.true_or, Bool.false_or] at hK
        refine bcase_of (fun h3 => ?_) (fun h3 => ?_)
        · try simp only [h3, bcase_tt, bcase_ff, Int.toNat_natCast, Bool.not_true, Bool.not_false, cond_true, cond_false, Bool.and_true, Bool.and_false, Bool.true_and, Bool.false_and, Bool.or_true, Bool.or_false, Bool.true_or, Bool.false_or] at hK
          exact hK _ _ _
        · try simp only [h3, bcase_tt, bcase_ff, Int.toNat_natCast, Bool.not_true, Bool.not_false, cond_true, cond_false, Bool.and_true, Bool.and_false, Bool.true_and, Bool.false_and, Bool.or_true, Bool.or_false, Bool.true_or, Bool.false_or] at hK
          have w1 : IntKind.i64.wrap ((↑name.size : Int) - (↑(lastOf name).size : Int)) = ((name.size - (lastOf name).size : Nat) : Int) := by
            rw [show ((↑name.size : Int) - (↑(lastOf name).size : Int)) = ((name.size - (lastOf name).size : Nat) : Int) by omega]
            exact wrap_id (by omega) (by omega)
          have w2 : IntKind.i64.wrap (((name.size - (lastOf name).size : Nat) : Int) - 1) = ((name.size - (lastOf name).size - 1 : Nat) : Int) := by
            rw [show (((name.size - (lastOf name).size : Nat) : Int) - 1) = ((name.size - (lastOf name).size - 1 : Nat) : Int) by omega]
            exact wrap_id (by omega) (by omega)
          simp only [w1, w2, Int.toNat_natCast]
          exact need_of (by simp; omega) ⟨⟨d, p, lastOf name, x, b⟩, ⟨rfl, ⟨k1, k2, f2, k4, k5⟩, f3⟩, hK⟩
      · try simp only [h2, bcase_tt, bcase_ff, Int.toNat_natCast, Bool.not_true, Bool.not_false, cond_true, cond_false, Bool.and_true, Bool.and_false, Bool.true_and, Bool.false_and, Bool.or_true, Bool.or_false, Bool.true_or, Bool.false_or] at hK
        exact leafB hK
    · try simp only [h1, bcase_tt, bcase_ff, Int.toNat_natCast, Bool.not_true, Bool.not_false, cond_true, cond_false, Bool.and_true, Bool.and_false, Bool.true_and, Bool.false_and, Bool.or_true, Bool.or_false, Bool.true_or, Bool.false_or] at hK
      exact leafB hK
  · exact h.elim
attribute [irreducible] rmid
end Go.Proofs.YtofcjkbgieenlaaDoor.PM

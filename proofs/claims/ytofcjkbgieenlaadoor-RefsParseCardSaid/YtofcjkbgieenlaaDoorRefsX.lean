/- Contract of refs.Parse. By an AI agent. -/
import Derived.Test.YtofcjkbgieenlaaDoorRefsW
namespace Go.Proofs.YtofcjkbgieenlaaDoor.PM
open Go Go.Proofs Go.RowKit
set_option maxRecDepth 100000
set_option linter.unusedVariables false
set_option linter.unusedSimpArgs false

def pend (r : RefT) : RefT × Int := bif checkS r != 0 then (zeroR, checkS r) else (r, 0)
def pfin (d p t : ByteArray) (x : List Int) (b : Bool) : RefT × Int :=
  bif isS d [100, 111, 99, 107, 101, 114, 46, 105, 111] && !hasSlash p then pend ⟨d, libT ++ p, t, x, b⟩ else pend ⟨d, p, t, x, b⟩
def pmid (name t : ByteArray) (x : List Int) (b : Bool) : RefT × Int :=
  bif isS (splitD name) [] || isS (splitD name) [105, 110, 100, 101, 120, 46, 100, 111, 99, 107, 101, 114, 46, 105, 111] then pfin (ByteArray.mk #[100, 111, 99, 107, 101, 114, 46, 105, 111]) (splitR name) t x b else pfin (splitD name) (splitR name) t x b
abbrev lastI (name : ByteArray) : Int := Lib.lastIndexByte name 58
def ptag (name : ByteArray) (x : List Int) (b : Bool) : RefT × Int :=
  bif decide (lastI name ≥ 0) && !hasSlash (name.extract (lastI name).toNat name.size) then
    bif isS (name.extract ((lastI name).toNat + 1) name.size) [] then (zeroR, 10) else pmid (name.extract 0 (lastI name).toNat) (name.extract ((lastI name).toNat + 1) name.size) x b
  else bif !b then pmid name (ByteArray.mk #[108, 97, 116, 101, 115, 116]) x b else pmid name ⟨#[]⟩ x b
def pparse9 (s : ByteArray) : RefT × Int :=
  bif decide ((s.size : Int) > 200) then (zeroR, 3) else
  bif cutF s 64 then (bif pparseE (cutZ s 64) != 0 then (zeroR, 10) else ptag (cutA s 64) (pparseX (cutZ s 64)) true) else ptag (cutA s 64) zerosL false
def Q23 : LSpec
  | [(2, .pointer (some ⟨0, 0, some 0⟩)), (4, .pointer (some ⟨1, 0, some 0⟩))], H, K => ∃ r : RefT, (H = [rowR zeroR.cells, rowR r.cells] ∧ RefP r) ∧ RetP K (pend r)
  | _, _, _ => False
theorem Q23_ok : CodeOk Tryd.prog Tryd.f9.ntmps (jn Tryd.f9 23) Q23 := by
  refine join_ok (call := callOf [(15, pureS (refPG fun r => .int .i64 (checkS r)))]) (hint := hints 9) (tb := noTab) hm (callOf_cons check_ok.spec callOf_nil) (by kernel_rfl) (by repeat' first | exact trivial | constructor |  (intro _ h; cases h)) fun fr H K h => ?_
  unfold Q23 at h
  split at h
  · obtain ⟨r, ⟨rfl, hr⟩, hK⟩ := h
    refine ⟨1, ?_⟩
    have hd := decI_digL hr.ok.n
    have he : RefT.mk r.d r.p r.t (decI (digL r.x)) r.b = r := by rw [hd]
    refine to (R := (RefP (RefT.mk r.d r.p r.t (decI (digL r.x)) r.b)) ∧ (bcase ((checkS (RefT.mk r.d r.p r.t (decI (digL r.x)) r.b)) != (0 : Int)) (K .ret [(2, (.pointer (some (Addr.mk 0 0 (some 0))))), (3, (.int .i64 (checkS (RefT.mk r.d r.p r.t (decI (digL r.x)) r.b))))] [(VB.row raw 36 [(refL (ByteArray.mk #[]) (ByteArray.mk #[]) (ByteArray.mk #[]) zerosL false)] .own), (VB.row raw 36 [(refL r.d r.p r.t r.x r.b)] .own)]) (K .ret [(2, (.pointer (some (Addr.mk 0 0 (some 0))))), (3, (.int .i64 (0 : Int)))] [(VB.row raw 36 [(refL r.d r.p r.t r.x r.b)] .own), (VB.row raw 36 [(refL r.d r.p r.t r.x r.b)] .own)]))) (by kernel_rfl) ?_
    rw [he]
    have := hK r.cells
    unfold pend at this
    refine ⟨hr, bcase_of (fun h => ?_) (fun h => ?_)⟩
    · rw [h] at this
      exact this
    · rw [h] at this
      exact this
  · exact h.elim
def Q21 : LSpec
  | [(2, .pointer (some ⟨0, 0, some 0⟩)), (4, .pointer (some ⟨1, 0, some 0⟩))], H, K => ∃ r : RefT, (H = [rowR zeroR.cells, rowR r.cells] ∧ RefP r ∧ r.p.size ≤ 1000) ∧ RetP K (pfin r.d r.p r.t r.x r.b)
  | _, _, _ => False
def tabQ23 : Tab := ⟨fun _ => none, fun | 23 => some Q23 | _ => none⟩
theorem Q21_ok : CodeOk Tryd.prog Tryd.f9.ntmps (jn Tryd.f9 21) Q21 := by
  refine join_ok (call := callOf [(21, pureS (two (fun s t => t = ⟨#[47]⟩) fun s t => .bool (decide (0 ≤ Lib.indexByte s.data.toList 47))))]) (hint := hints 9) (tb := tabQ23) hm (callOf_cons contains_ok.spec callOf_nil) (by kernel_rfl) (by repeat' first | exact trivial | constructor | (intro _ h; cases h; exact Q23_ok) | (intro _ h; cases h)) fun fr H K h => ?_
  unfold Q21 at h
  split at h
  · obtain ⟨r, ⟨rfl, hr, hp⟩, hK⟩ := h
    obtain ⟨⟨k1, k2, k3, k4, k5⟩, k6, k7⟩ := hr
    refine ⟨1, ?_⟩
    have hz : (libT ++ r.p).size = 8 + r.p.size := ByteArray.size_append
    have f1 : (libT ++ r.p).size < 2 ^ 30 := by omega
    have f2 : (libT ++ r.p).size ≤ 1000000 := by omega
    refine to (R := bcase (r.d.toList == (ByteArray.mk #[100, 111, 99, 107, 101, 114, 46, 105, 111]).toList) (((ByteArray.mk #[47]) = (ByteArray.mk #[47])) ∧ (bcase (!(decide ((0 : Int) ≤ (Lib.indexByte r.p.data.toList 47)))) (need (decide ((8 + r.p.size) < 9223372036854775808)) (∃ (r_1 : RefT), ((([(VB.row raw 36 [(refL zeroR.d zeroR.p zeroR.t zeroR.x false)] .own), (VB.row raw 36 [(refL r.d ((ByteArray.mk #[108, 105, 98, 114, 97, 114, 121, 47]) ++ r.p) r.t r.x r.b)] .own)] = [(VB.row raw 36 [(refL zeroR.d zeroR.p zeroR.t zeroR.x false)] .own), (VB.row raw 36 [(refL r_1.d r_1.p r_1.t r_1.x r_1.b)] .own)]) ∧ (RefP r_1)) ∧ (∀ (l : (List Value)), (K .ret [(2, (.pointer (some (Addr.mk 0 0 (some 0))))), (3, (.int .i64 (pend r_1).snd))] [(VB.row raw 36 [(refL (pend r_1).fst.d (pend r_1).fst.p (pend r_1).fst.t (pend r_1).fst.x (pend r_1).fst.b)] .own), (VB.row raw 36 [l] .own)]))))) (∃ (r_1 : RefT), ((([(VB.row raw 36 [(refL zeroR.d zeroR.p zeroR.t zeroR.x false)] .own), (VB.row raw 36 [(refL r.d r.p r.t r.x r.b)] .own)] = [(VB.row raw 36 [(refL zeroR.d zeroR.p zeroR.t zeroR.x false)] .own), (VB.row raw 36 [(refL r_1.d r_1.p r_1.t r_1.x r_1.b)] .own)]) ∧ (RefP r_1)) ∧ (∀ (l : (List Value)), (K .ret [(2, (.pointer (some (Addr.mk 0 0 (some 0))))), (3, (.int .i64 (pend r_1).snd))] [(VB.row raw 36 [(refL (pend r_1).fst.d (pend r_1).fst.p (pend r_1).fst.t (pend r_1).fst.x (pend r_1).fst.b)] .own), (VB.row raw 36 [l] .own)])))))) (∃ (r_1 : RefT), ((([(VB.row raw 36 [(refL zeroR.d zeroR.p zeroR.t zeroR.x false)] .own), (VB.row raw 36 [(refL r.d r.p r.t r.x r.b)] .own)] = [(VB.row raw 36 [(refL zeroR.d zeroR.p zeroR.t zeroR.x false)] .own), (VB.row raw 36 [(refL r_1.d r_1.p r_1.t r_1.x r_1.b)] .own)]) ∧ (RefP r_1)) ∧ (∀ (l : (List Value)), (K .ret [(2, (.pointer (some (Addr.mk 0 0 (some 0))))), (3, (.int .i64 (pend r_1).snd))] [(VB.row raw 36 [(refL (pend r_1).fst.d (pend r_1).fst.p (pend r_1).fst.t (pend r_1).fst.x (pend r_1).fst.b)] .own), (VB.row raw 36 [l] .own)]))))) (by kernel_rfl) ?_
    simp only [isS, pfin, hasSlash] at hK
    repeat' first | with_reducible exact trivial | with_reducible refine need_of (by first | first | with_reducible assumption | (simp only [List.length_cons, List.length_nil, Nat.zero_add, Nat.zero_lt_succ, decide_true, Bool.and_true, Bool.and_self]; done) | with_reducible exact pos_of (by assumption) | with_reducible exact pos_of' (by assumption) | omega | (simp only [ByteArray.size_append, sz1, decide_eq_true_eq, *]; omega) | decide | (simp only [Bool.and_true, Bool.and_eq_true, decide_eq_true_eq, ByteArray.size_extract, ByteArray.size_append, sz1, Int.toNat_natCast, List.getD_eq_getElem?_getD, beq_iff_eq, decide_eq_false_iff_not] at *; omega) | ((repeat' constructor) <;> first | rfl | first | with_reducible assumption | (simp only [List.length_cons, List.length_nil, Nat.zero_add, Nat.zero_lt_succ, decide_true, Bool.and_true, Bool.and_self]; done) | with_reducible exact pos_of (by assumption) | with_reducible exact pos_of' (by assumption) | omega | (simp only [ByteArray.size_append, sz1, decide_eq_true_eq, *]; omega) | decide | (simp only [Bool.and_true, Bool.and_eq_true, decide_eq_true_eq, ByteArray.size_extract, ByteArray.size_append, sz1, Int.toNat_natCast, List.getD_eq_getElem?_getD, beq_iff_eq, decide_eq_false_iff_not] at *; omega))) ?_ | with_reducible refine And.intro (by first | first | with_reducible assumption | (simp only [List.length_cons, List.length_nil, Nat.zero_add, Nat.zero_lt_succ, decide_true, Bool.and_true, Bool.and_self]; done) | with_reducible exact pos_of (by assumption) | with_reducible exact pos_of' (by assumption) | omega | (simp only [ByteArray.size_append, sz1, decide_eq_true_eq, *]; omega) | decide | (simp only [Bool.and_true, Bool.and_eq_true, decide_eq_true_eq, ByteArray.size_extract, ByteArray.size_append, sz1, Int.toNat_natCast, List.getD_eq_getElem?_getD, beq_iff_eq, decide_eq_false_iff_not] at *; omega) | ((repeat' constructor) <;> first | rfl | first | with_reducible assumption | (simp only [List.length_cons, List.length_nil, Nat.zero_add, Nat.zero_lt_succ, decide_true, Bool.and_true, Bool.and_self]; done) | with_reducible exact pos_of (by assumption) | with_reducible exact pos_of' (by assumption) | omega | (simp only [ByteArray.size_append, sz1, decide_eq_true_eq, *]; omega) | decide | (simp only [Bool.and_true, Bool.and_eq_true, decide_eq_true_eq, ByteArray.size_extract, ByteArray.size_append, sz1, Int.toNat_natCast, List.getD_eq_getElem?_getD, beq_iff_eq, decide_eq_false_iff_not] at *; omega))) ?_ | with_reducible refine bcase_not ?_ | with_reducible refine bcase_t rfl ?_ | with_reducible refine bcase_f rfl ?_ | with_reducible refine bcase_t (by assumption) ?_ | with_reducible refine bcase_f (by assumption) ?_ | (with_reducible refine bcase_of (fun hx => ?_) (fun hx => ?_) <;> try simp only [hx, bcase_tt, bcase_ff, Int.toNat_natCast, Bool.not_true, Bool.not_false, cond_true, cond_false, Bool.and_true, Bool.and_false, Bool.true_and, Bool.false_and, Bool.or_true, Bool.or_false, Bool.true_or, Bool.false_or] at hK)
    all_goals (refine ⟨⟨_, _, _, _, _⟩, ⟨rfl, ?_⟩, hK⟩)
    all_goals first | exact ⟨⟨k1, k2, k3, k4, k5⟩, k6, k7⟩ | exact ⟨⟨k1, f1, k3, k4, k5⟩, k6, f2⟩
  · exact h.elim
def Q18 : LSpec
  | [(2, .pointer (some ⟨0, 0, some 0⟩)), (4, .pointer (some ⟨1, 0, some 0⟩)), (5, .string name)], H, K => ∃ r : RefT, (H = [rowR zeroR.cells, rowR r.cells] ∧ RefP r ∧ name.size ≤ 1000) ∧ RetP K (pmid name r.t r.x r.b)
  | _, _, _ => False
def tabQ21 : Tab := ⟨fun _ => none, fun | 21 => some Q21 | _ => none⟩
theorem splitD_size (s : ByteArray) : (splitD s).size ≤ s.size := by
  unfold splitD
  cases cutF s 47 && toldS (cutA s 47)
  · exact Nat.zero_le _
  · exact cutA_size s 47
theorem cutZ_size' (s : ByteArray) (c : UInt8) : (cutZ s c).size ≤ s.size := cutZ_size s c
theorem splitR_size (s : ByteArray) : (splitR s).size ≤ s.size := by
  unfold splitR
  cases cutF s 47 && toldS (cutA s 47)
  · exact Nat.le_refl _
  · exact cutZ_size s 47
attribute [local irreducible] splitD splitR
theorem Q18_ok : CodeOk Tryd.prog Tryd.f9.ntmps (jn Tryd.f9 18) Q18 := by
  refine join_ok (call := callOf [(22, pureS splitG)]) (hint := hints 9) (tb := tabQ21) hm (callOf_cons split_ok.spec callOf_nil) (by kernel_rfl) (by repeat' first | exact trivial | constructor | (intro _ h; cases h; exact Q21_ok) | (intro _ h; cases h)) fun fr H K h => ?_
  unfold Q18 at h
  split at h
  · rename_i name
    obtain ⟨r, ⟨rfl, hr, hp⟩, hK⟩ := h
    obtain ⟨⟨k1, k2, k3, k4, k5⟩, k6, k7⟩ := hr
    refine ⟨1, ?_⟩
    have g1 := splitD_size name
    have g2 := splitR_size name
    have f1 : (splitD name).size < 2 ^ 30 := by omega
    have f2 : (splitR name).size < 2 ^ 30 := by omega
    have f3 : (splitD name).size ≤ 1000000 := by omega
    have f4 : (splitR name).size ≤ 1000000 := by omega
    have f5 : (splitR name).size ≤ 1000 := by omega
    have f6 : (ByteArray.mk #[100, 111, 99, 107, 101, 114, 46, 105, 111]).size ≤ 1000000 := by decide
    refine to (R := (name.size < 2147483648) ∧ (bcase ((splitD name).toList == (ByteArray.mk #[]).toList) (∃ (r_1 : RefT), ((([(VB.row raw 36 [(refL zeroR.d zeroR.p zeroR.t zeroR.x false)] .own), (VB.row raw 36 [(refL (ByteArray.mk #[100, 111, 99, 107, 101, 114, 46, 105, 111]) (splitR name) r.t r.x r.b)] .own)] = [(VB.row raw 36 [(refL zeroR.d zeroR.p zeroR.t zeroR.x false)] .own), (VB.row raw 36 [(refL r_1.d r_1.p r_1.t r_1.x r_1.b)] .own)]) ∧ ((RefP r_1) ∧ (r_1.p.size ≤ 1000))) ∧ (∀ (l : (List Value)), (K .ret [(2, (.pointer (some (Addr.mk 0 0 (some 0))))), (3, (.int .i64 (pfin r_1.d r_1.p r_1.t r_1.x r_1.b).snd))] [(VB.row raw 36 [(refL (pfin r_1.d r_1.p r_1.t r_1.x r_1.b).fst.d (pfin r_1.d r_1.p r_1.t r_1.x r_1.b).fst.p (pfin r_1.d r_1.p r_1.t r_1.x r_1.b).fst.t (pfin r_1.d r_1.p r_1.t r_1.x r_1.b).fst.x (pfin r_1.d r_1.p r_1.t r_1.x r_1.b).fst.b)] .own), (VB.row raw 36 [l] .own)])))) (bcase ((splitD name).toList == (ByteArray.mk #[105, 110, 100, 101, 120, 46, 100, 111, 99, 107, 101, 114, 46, 105, 111]).toList) (∃ (r_1 : RefT), ((([(VB.row raw 36 [(refL zeroR.d zeroR.p zeroR.t zeroR.x false)] .own), (VB.row raw 36 [(refL (ByteArray.mk #[100, 111, 99, 107, 101, 114, 46, 105, 111]) (splitR name) r.t r.x r.b)] .own)] = [(VB.row raw 36 [(refL zeroR.d zeroR.p zeroR.t zeroR.x false)] .own), (VB.row raw 36 [(refL r_1.d r_1.p r_1.t r_1.x r_1.b)] .own)]) ∧ ((RefP r_1) ∧ (r_1.p.size ≤ 1000))) ∧ (∀ (l : (List Value)), (K .ret [(2, (.pointer (some (Addr.mk 0 0 (some 0))))), (3, (.int .i64 (pfin r_1.d r_1.p r_1.t r_1.x r_1.b).snd))] [(VB.row raw 36 [(refL (pfin r_1.d r_1.p r_1.t r_1.x r_1.b).fst.d (pfin r_1.d r_1.p r_1.t r_1.x r_1.b).fst.p (pfin r_1.d r_1.p r_1.t r_1.x r_1.b).fst.t (pfin r_1.d r_1.p r_1.t r_1.x r_1.b).fst.x (pfin r_1.d r_1.p r_1.t r_1.x r_1.b).fst.b)] .own), (VB.row raw 36 [l] .own)])))) (∃ (r_1 : RefT), ((([(VB.row raw 36 [(refL zeroR.d zeroR.p zeroR.t zeroR.x false)] .own), (VB.row raw 36 [(refL (splitD name) (splitR name) r.t r.x r.b)] .own)] = [(VB.row raw 36 [(refL zeroR.d zeroR.p zeroR.t zeroR.x false)] .own), (VB.row raw 36 [(refL r_1.d r_1.p r_1.t r_1.x r_1.b)] .own)]) ∧ ((RefP r_1) ∧ (r_1.p.size ≤ 1000))) ∧ (∀ (l : (List Value)), (K .ret [(2, (.pointer (some (Addr.mk 0 0 (some 0))))), (3, (.int .i64 (pfin r_1.d r_1.p r_1.t r_1.x r_1.b).snd))] [(VB.row raw 36 [(refL (pfin r_1.d r_1.p r_1.t r_1.x r_1.b).fst.d (pfin r_1.d r_1.p r_1.t r_1.x r_1.b).fst.p (pfin r_1.d r_1.p r_1.t r_1.x r_1.b).fst.t (pfin r_1.d r_1.p r_1.t r_1.x r_1.b).fst.x (pfin r_1.d r_1.p r_1.t r_1.x r_1.b).fst.b)] .own), (VB.row raw 36 [l] .own)]))))))) (by kernel_rfl) ?_
    simp only [isS, pmid] at hK
    repeat' first | with_reducible exact trivial | with_reducible refine need_of (by first | first | with_reducible assumption | (simp only [List.length_cons, List.length_nil, Nat.zero_add, Nat.zero_lt_succ, decide_true, Bool.and_true, Bool.and_self]; done) | with_reducible exact pos_of (by assumption) | with_reducible exact pos_of' (by assumption) | omega | (simp only [ByteArray.size_append, sz1, decide_eq_true_eq, *]; omega) | decide | (simp only [Bool.and_true, Bool.and_eq_true, decide_eq_true_eq, ByteArray.size_extract, ByteArray.size_append, sz1, Int.toNat_natCast, List.getD_eq_getElem?_getD, beq_iff_eq, decide_eq_false_iff_not] at *; omega) | ((repeat' constructor) <;> first | rfl | first | with_reducible assumption | (simp only [List.length_cons, List.length_nil, Nat.zero_add, Nat.zero_lt_succ, decide_true, Bool.and_true, Bool.and_self]; done) | with_reducible exact pos_of (by assumption) | with_reducible exact pos_of' (by assumption) | omega | (simp only [ByteArray.size_append, sz1, decide_eq_true_eq, *]; omega) | decide | (simp only [Bool.and_true, Bool.and_eq_true, decide_eq_true_eq, ByteArray.size_extract, ByteArray.size_append, sz1, Int.toNat_natCast, List.getD_eq_getElem?_getD, beq_iff_eq, decide_eq_false_iff_not] at *; omega))) ?_ | with_reducible refine And.intro (by first | first | with_reducible assumption | (simp only [List.length_cons, List.length_nil, Nat.zero_add, Nat.zero_lt_succ, decide_true, Bool.and_true, Bool.and_self]; done) | with_reducible exact pos_of (by assumption) | with_reducible exact pos_of' (by assumption) | omega | (simp only [ByteArray.size_append, sz1, decide_eq_true_eq, *]; omega) | decide | (simp only [Bool.and_true, Bool.and_eq_true, decide_eq_true_eq, ByteArray.size_extract, ByteArray.size_append, sz1, Int.toNat_natCast, List.getD_eq_getElem?_getD, beq_iff_eq, decide_eq_false_iff_not] at *; omega) | ((repeat' constructor) <;> first | rfl | first | with_reducible assumption | (simp only [List.length_cons, List.length_nil, Nat.zero_add, Nat.zero_lt_succ, decide_true, Bool.and_true, Bool.and_self]; done) | with_reducible exact pos_of (by assumption) | with_reducible exact pos_of' (by assumption) | omega | (simp only [ByteArray.size_append, sz1, decide_eq_true_eq, *]; omega) | decide | (simp only [Bool.and_true, Bool.and_eq_true, decide_eq_true_eq, ByteArray.size_extract, ByteArray.size_append, sz1, Int.toNat_natCast, List.getD_eq_getElem?_getD, beq_iff_eq, decide_eq_false_iff_not] at *; omega))) ?_ | with_reducible refine bcase_not ?_ | with_reducible refine bcase_t rfl ?_ | with_reducible refine bcase_f rfl ?_ | with_reducible refine bcase_t (by assumption) ?_ | with_reducible refine bcase_f (by assumption) ?_ | (with_reducible refine bcase_of (fun hx => ?_) (fun hx => ?_) <;> try simp only [hx, bcase_tt, bcase_ff, Int.toNat_natCast, Bool.not_true, Bool.not_false, cond_true, cond_false, Bool.and_true, Bool.and_false, Bool.true_and, Bool.false_and, Bool.or_true, Bool.or_false, Bool.true_or, Bool.false_or] at hK)
    all_goals (refine ⟨⟨_, _, _, _, _⟩, ⟨rfl, ?_, f5⟩, hK⟩)
    all_goals first | exact ⟨⟨f1, f2, k3, k4, k5⟩, f3, f4⟩ | exact ⟨⟨sz8, f2, k3, k4, k5⟩, f6, f4⟩
  · exact h.elim
end Go.Proofs.YtofcjkbgieenlaaDoor.PM

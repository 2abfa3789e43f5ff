/- Contract of refs.Parse, its tag and the whole. By an AI agent. -/
import Derived.Test.YtofcjkbgieenlaaDoorRefsX
namespace Go.Proofs.YtofcjkbgieenlaaDoor.PM
open Go Go.Proofs Go.RowKit
set_option maxRecDepth 100000
set_option linter.unusedVariables false
set_option linter.unusedSimpArgs false

theorem lastI_range (s : ByteArray) : -1 ≤ lastI s ∧ lastI s < s.size := by
  rcases Lib.lastIdx_spec s 58 s.size with ⟨h, _⟩ | ⟨i, h1, h2, _⟩
  · rw [lastI, Lib.lastIndexByte, h]; omega
  · rw [lastI, Lib.lastIndexByte, h2]; omega
abbrev lastG : Pure := fun
    | [.string s, .int .u8 c] => some (s.size < 4611686018427387904, .int .i64 (Lib.lastIndexByte s c))
    | _ => none
def Q10 : LSpec
  | [(2, .pointer (some ⟨0, 0, some 0⟩)), (4, .pointer (some ⟨1, 0, some 0⟩)), (5, .string name), (7, .bool pin)], H, K => ∃ r : RefT, (H = [rowR zeroR.cells, rowR r.cells] ∧ RefP r ∧ name.size ≤ 1000 ∧ pin = r.b ∧ r.t = ⟨#[]⟩) ∧ RetP K (ptag name r.x r.b)
  | _, _, _ => False
def tabQ18 : Tab := ⟨fun _ => none, fun | 18 => some Q18 | _ => none⟩
attribute [local irreducible] Lib.lastIndexByte
theorem Q10_ok : CodeOk Tryd.prog Tryd.f9.ntmps (jn Tryd.f9 10) Q10 := by
  refine join_ok (call := callOf [(20, pureS lastG), (21, pureS (two (fun s t => t = ⟨#[47]⟩) fun s t => .bool (decide (0 ≤ Lib.indexByte s.data.toList 47))))]) (hint := hints 9) (tb := tabQ18) hm (callOf_cons lastIndex_ok.spec (callOf_cons contains_ok.spec callOf_nil)) (by kernel_rfl) (by repeat' first | exact trivial | constructor | (intro _ h; cases h; exact Q18_ok) | (intro _ h; cases h)) fun fr H K h => ?_
  unfold Q10 at h
  split at h
  · rename_i name pin
    obtain ⟨⟨d, p, t, x, b⟩, ⟨rfl, hr, hn, rfl, rfl⟩, hK⟩ := h
    obtain ⟨⟨k1, k2, k3, k4, k5⟩, k6, k7⟩ := hr
    dsimp only at k1 k2 k3 k4 k5 k6 k7 hK
    refine ⟨1, ?_⟩
    have hl : -1 ≤ Lib.lastIndexByte name 58 ∧ Lib.lastIndexByte name 58 < name.size := lastI_range name
    have z0 : (ByteArray.mk #[]).size < 2 ^ 30 := by decide
    have z6 : (ByteArray.mk #[108, 97, 116, 101, 115, 116]).size < 2 ^ 30 := by decide
    refine to (R := (name.size < 4611686018427387904) ∧ (bcase (decide ((Lib.lastIndexByte name (58 : Int)) ≥ (0 : Int))) (need ((decide ((0 : Int) ≤ (Lib.lastIndexByte name (58 : Int)))) && ((decide ((Lib.lastIndexByte name (58 : Int)) ≤ (↑name.size : Int))) && (decide ((↑name.size : Int) ≤ (↑name.size : Int))))) (((ByteArray.mk #[47]) = (ByteArray.mk #[47])) ∧ (bcase (!(decide ((0 : Int) ≤ (Lib.indexByte (name.extract (Lib.lastIndexByte name (58 : Int)).toNat (↑name.size : Int).toNat).data.toList 47)))) (need ((decide ((0 : Int) ≤ (IntKind.i64.wrap ((Lib.lastIndexByte name (58 : Int)) + (1 : Int))))) && ((decide ((IntKind.i64.wrap ((Lib.lastIndexByte name (58 : Int)) + (1 : Int))) ≤ (↑name.size : Int))) && (decide ((↑name.size : Int) ≤ (↑name.size : Int))))) (need ((decide (0 < [(refL (RefT.mk d p (ByteArray.mk #[]) x pin).d (RefT.mk d p (ByteArray.mk #[]) x pin).p (name.extract (IntKind.i64.wrap ((Lib.lastIndexByte name (58 : Int)) + (1 : Int))).toNat (↑name.size : Int).toNat) (RefT.mk d p (ByteArray.mk #[]) x pin).x (RefT.mk d p (ByteArray.mk #[]) x pin).b)].length)) && true) (bcase ((name.extract (IntKind.i64.wrap ((Lib.lastIndexByte name (58 : Int)) + (1 : Int))).toNat (↑name.size : Int).toNat).toList == (ByteArray.mk #[]).toList) (K .ret [(2, (.pointer (some (Addr.mk 0 0 (some 0))))), (3, (.int .i64 (10 : Int)))] [(VB.row raw 36 [(refL (ByteArray.mk #[]) (ByteArray.mk #[]) (ByteArray.mk #[]) zerosL false)] .own), (VB.row raw 36 [(refL (RefT.mk d p (ByteArray.mk #[]) x pin).d (RefT.mk d p (ByteArray.mk #[]) x pin).p (name.extract (IntKind.i64.wrap ((Lib.lastIndexByte name (58 : Int)) + (1 : Int))).toNat (↑name.size : Int).toNat) (RefT.mk d p (ByteArray.mk #[]) x pin).x (RefT.mk d p (ByteArray.mk #[]) x pin).b)] .own)]) (need ((decide ((0 : Int) ≤ (Lib.lastIndexByte name (58 : Int)))) && (decide ((Lib.lastIndexByte name (58 : Int)) ≤ (↑name.size : Int)))) (∃ (r : RefT), ((([(VB.row raw 36 [(refL zeroR.d zeroR.p zeroR.t zeroR.x false)] .own), (VB.row raw 36 [(refL (RefT.mk d p (ByteArray.mk #[]) x pin).d (RefT.mk d p (ByteArray.mk #[]) x pin).p (name.extract (IntKind.i64.wrap ((Lib.lastIndexByte name (58 : Int)) + (1 : Int))).toNat (↑name.size : Int).toNat) (RefT.mk d p (ByteArray.mk #[]) x pin).x (RefT.mk d p (ByteArray.mk #[]) x pin).b)] .own)] = [(VB.row raw 36 [(refL zeroR.d zeroR.p zeroR.t zeroR.x false)] .own), (VB.row raw 36 [(refL r.d r.p r.t r.x r.b)] .own)]) ∧ ((RefP r) ∧ ((name.extract 0 (Lib.lastIndexByte name (58 : Int)).toNat).size ≤ 1000))) ∧ (∀ (l : (List Value)), (K .ret [(2, (.pointer (some (Addr.mk 0 0 (some 0))))), (3, (.int .i64 (pmid (name.extract 0 (Lib.lastIndexByte name (58 : Int)).toNat) r.t r.x r.b).snd))] [(VB.row raw 36 [(refL (pmid (name.extract 0 (Lib.lastIndexByte name (58 : Int)).toNat) r.t r.x r.b).fst.d (pmid (name.extract 0 (Lib.lastIndexByte name (58 : Int)).toNat) r.t r.x r.b).fst.p (pmid (name.extract 0 (Lib.lastIndexByte name (58 : Int)).toNat) r.t r.x r.b).fst.t (pmid (name.extract 0 (Lib.lastIndexByte name (58 : Int)).toNat) r.t r.x r.b).fst.x (pmid (name.extract 0 (Lib.lastIndexByte name (58 : Int)).toNat) r.t r.x r.b).fst.b)] .own), (VB.row raw 36 [l] .own)])))))))) (bcase (!pin) (∃ (r : RefT), ((([(VB.row raw 36 [(refL zeroR.d zeroR.p zeroR.t zeroR.x false)] .own), (VB.row raw 36 [(refL (RefT.mk d p (ByteArray.mk #[]) x pin).d (RefT.mk d p (ByteArray.mk #[]) x pin).p (ByteArray.mk #[108, 97, 116, 101, 115, 116]) (RefT.mk d p (ByteArray.mk #[]) x pin).x (RefT.mk d p (ByteArray.mk #[]) x pin).b)] .own)] = [(VB.row raw 36 [(refL zeroR.d zeroR.p zeroR.t zeroR.x false)] .own), (VB.row raw 36 [(refL r.d r.p r.t r.x r.b)] .own)]) ∧ ((RefP r) ∧ (name.size ≤ 1000))) ∧ (∀ (l : (List Value)), (K .ret [(2, (.pointer (some (Addr.mk 0 0 (some 0))))), (3, (.int .i64 (pmid name r.t r.x r.b).snd))] [(VB.row raw 36 [(refL (pmid name r.t r.x r.b).fst.d (pmid name r.t r.x r.b).fst.p (pmid name r.t r.x r.b).fst.t (pmid name r.t r.x r.b).fst.x (pmid name r.t r.x r.b).fst.b)] .own), (VB.row raw 36 [l] .own)])))) (∃ (r : RefT), ((([(VB.row raw 36 [(refL zeroR.d zeroR.p zeroR.t zeroR.x false)] .own), (VB.row raw 36 [(refL (RefT.mk d p (ByteArray.mk #[]) x pin).d (RefT.mk d p (ByteArray.mk #[]) x pin).p (RefT.mk d p (ByteArray.mk #[]) x pin).t (RefT.mk d p (ByteArray.mk #[]) x pin).x (RefT.mk d p (ByteArray.mk #[]) x pin).b)] .own)] = [(VB.row raw 36 [(refL zeroR.d zeroR.p zeroR.t zeroR.x false)] .own), (VB.row raw 36 [(refL r.d r.p r.t r.x r.b)] .own)]) ∧ ((RefP r) ∧ (name.size ≤ 1000))) ∧ (∀ (l : (List Value)), (K .ret [(2, (.pointer (some (Addr.mk 0 0 (some 0))))), (3, (.int .i64 (pmid name r.t r.x r.b).snd))] [(VB.row raw 36 [(refL (pmid name r.t r.x r.b).fst.d (pmid name r.t r.x r.b).fst.p (pmid name r.t r.x r.b).fst.t (pmid name r.t r.x r.b).fst.x (pmid name r.t r.x r.b).fst.b)] .own), (VB.row raw 36 [l] .own)])))))))) (bcase (!pin) (∃ (r : RefT), ((([(VB.row raw 36 [(refL zeroR.d zeroR.p zeroR.t zeroR.x false)] .own), (VB.row raw 36 [(refL (RefT.mk d p (ByteArray.mk #[]) x pin).d (RefT.mk d p (ByteArray.mk #[]) x pin).p (ByteArray.mk #[108, 97, 116, 101, 115, 116]) (RefT.mk d p (ByteArray.mk #[]) x pin).x (RefT.mk d p (ByteArray.mk #[]) x pin).b)] .own)] = [(VB.row raw 36 [(refL zeroR.d zeroR.p zeroR.t zeroR.x false)] .own), (VB.row raw 36 [(refL r.d r.p r.t r.x r.b)] .own)]) ∧ ((RefP r) ∧ (name.size ≤ 1000))) ∧ (∀ (l : (List Value)), (K .ret [(2, (.pointer (some (Addr.mk 0 0 (some 0))))), (3, (.int .i64 (pmid name r.t r.x r.b).snd))] [(VB.row raw 36 [(refL (pmid name r.t r.x r.b).fst.d (pmid name r.t r.x r.b).fst.p (pmid name r.t r.x r.b).fst.t (pmid name r.t r.x r.b).fst.x (pmid name r.t r.x r.b).fst.b)] .own), (VB.row raw 36 [l] .own)])))) (∃ (r : RefT), ((([(VB.row raw 36 [(refL zeroR.d zeroR.p zeroR.t zeroR.x false)] .own), (VB.row raw 36 [(refL (RefT.mk d p (ByteArray.mk #[]) x pin).d (RefT.mk d p (ByteArray.mk #[]) x pin).p (RefT.mk d p (ByteArray.mk #[]) x pin).t (RefT.mk d p (ByteArray.mk #[]) x pin).x (RefT.mk d p (ByteArray.mk #[]) x pin).b)] .own)] = [(VB.row raw 36 [(refL zeroR.d zeroR.p zeroR.t zeroR.x false)] .own), (VB.row raw 36 [(refL r.d r.p r.t r.x r.b)] .own)]) ∧ ((RefP r) ∧ (name.size ≤ 1000))) ∧ (∀ (l : (List Value)), (K .ret [(2, (.pointer (some (Addr.mk 0 0 (some 0))))), (3, (.int .i64 (pmid name r.t r.x r.b).snd))] [(VB.row raw 36 [(refL (pmid name r.t r.x r.b).fst.d (pmid name r.t r.x r.b).fst.p (pmid name r.t r.x r.b).fst.t (pmid name r.t r.x r.b).fst.x (pmid name r.t r.x r.b).fst.b)] .own), (VB.row raw 36 [l] .own)]))))))) (by kernel_rfl) ?_
    rcases Int.lt_or_le (Lib.lastIndexByte name 58) 0 with hneg | hpos
    · have h0 : decide (Lib.lastIndexByte name 58 ≥ 0) = false := decide_eq_false (by omega)
      simp only [ptag, lastI, h0, Bool.false_and, cond_false] at hK
      refine ⟨by omega, bcase_f h0 (bcase_not (bcase_of (fun hx => ?_) (fun hx => ?_)))⟩
      · try simp only [hx, bcase_tt, bcase_ff, Int.toNat_natCast, Bool.not_true, Bool.not_false, cond_true, cond_false, Bool.and_true, Bool.and_false, Bool.true_and, Bool.false_and, Bool.or_true, Bool.or_false, Bool.true_or, Bool.false_or] at hK
        exact ⟨⟨d, p, ⟨#[]⟩, x, pin⟩, ⟨rfl, ⟨⟨k1, k2, z0, k4, k5⟩, k6, k7⟩, hn⟩, by rw [hx]; exact hK⟩
      · try simp only [hx, bcase_tt, bcase_ff, Int.toNat_natCast, Bool.not_true, Bool.not_false, cond_true, cond_false, Bool.and_true, Bool.and_false, Bool.true_and, Bool.false_and, Bool.or_true, Bool.or_false, Bool.true_or, Bool.false_or] at hK
        exact ⟨⟨d, p, (ByteArray.mk #[108, 97, 116, 101, 115, 116]), x, pin⟩, ⟨rfl, ⟨⟨k1, k2, z6, k4, k5⟩, k6, k7⟩, hn⟩, by rw [hx]; exact hK⟩
    · obtain ⟨i, hi⟩ : ∃ i : Nat, Lib.lastIndexByte name 58 = (i : Int) := ⟨(Lib.lastIndexByte name 58).toNat, by omega⟩
      have hlt : i < name.size := by have := hl.2; omega
      have hw : IntKind.i64.wrap ((i : Int) + 1) = ((i + 1 : Nat) : Int) := wrap_id (by omega) (by omega)
      have h0 : decide ((i : Int) ≥ 0) = true := decide_eq_true (by omega)
      simp only [ptag, lastI, hi, h0, Bool.true_and, Int.toNat_natCast, isS, hasSlash] at hK
      simp only [hi, hw, Int.toNat_natCast]
      have f1 : (name.extract (i + 1) name.size).size < 2 ^ 30 := by rw [ByteArray.size_extract]; omega
      have f2 : (name.extract 0 i).size ≤ 1000 := by rw [ByteArray.size_extract]; omega
      have leafB : RetP K (bif !pin then pmid name (ByteArray.mk #[108, 97, 116, 101, 115, 116]) x pin else pmid name ⟨#[]⟩ x pin) → (bcase (!pin) (∃ r : RefT, (([rowR zeroR.cells, rowR (refL d p (ByteArray.mk #[108, 97, 116, 101, 115, 116]) x pin)] = [rowR zeroR.cells, rowR r.cells]) ∧ RefP r ∧ name.size ≤ 1000) ∧ RetP K (pmid name r.t r.x r.b))
          (∃ r : RefT, (([rowR zeroR.cells, rowR (refL d p ⟨#[]⟩ x pin)] = [rowR zeroR.cells, rowR r.cells]) ∧ RefP r ∧ name.size ≤ 1000) ∧ RetP K (pmid name r.t r.x r.b))) := fun hq => by
        refine bcase_not (bcase_of (fun hx => ?_) (fun hx => ?_))
        · rw [hx] at hq
          exact ⟨⟨d, p, ⟨#[]⟩, x, pin⟩, ⟨rfl, ⟨⟨k1, k2, z0, k4, k5⟩, k6, k7⟩, hn⟩, by rw [hx]; exact hq⟩
        · rw [hx] at hq
          exact ⟨⟨d, p, (ByteArray.mk #[108, 97, 116, 101, 115, 116]), x, pin⟩, ⟨rfl, ⟨⟨k1, k2, z6, k4, k5⟩, k6, k7⟩, hn⟩, by rw [hx]; exact hq⟩
      refine ⟨by omega, bcase_t h0 (need_of (by simp; omega) ⟨trivial, bcase_not (bcase_of (fun hx => ?_) (fun hx => ?_))⟩)⟩
      · simp only [hx, Bool.not_true, cond_false] at hK
        exact leafB hK
      · simp only [hx, Bool.not_false, cond_true] at hK
        refine need_of (by simp; omega) (need_of rfl (bcase_of (fun h2 => ?_) (fun h2 => need_of (by simp; omega) ?_)))
        · simp only [h2, cond_true] at hK
          exact hK _
        · simp only [h2, cond_false] at hK
          exact ⟨⟨d, p, name.extract (i + 1) name.size, x, pin⟩, ⟨rfl, ⟨⟨k1, k2, f1, k4, k5⟩, k6, k7⟩, f2⟩, hK⟩
  · exact h.elim
def tabQ10 : Tab := ⟨fun _ => none, fun | 10 => some Q10 | _ => none⟩
def pparse9G : Pure
  | [.string s] => some (s.size < 2 ^ 29, refV (pparse9 s))
  | _ => none
attribute [local irreducible] ptag
theorem pparse9_ok : PureOk Tryd.prog 9 pparse9G := by
  refine .of_run (call := callOf [(18, pureS cutG2), (19, pureS pparseG)]) (hint := hints 9) (tb := tabQ10) hm (callOf_cons cut_ok'.spec (callOf_cons pparse_ok.spec callOf_nil)) Tryd.func9 (by kernel_rfl) rfl (by kernel_rfl) (by repeat' first | exact trivial | constructor | (intro _ h; cases h; exact Q10_ok) | (intro _ h; cases h)) fun args c r h => ?_
  unfold pparse9G at h
  split at h
  · rename_i s
    cases h
    refine ⟨rfl, fun hs => ⟨rfl, 1, fun K hK => ?_⟩⟩
    have ho : oneB (ByteArray.mk #[64]) = 64 := rfl
    have g1 := cutA_size s 64
    have g2 := cutZ_size s 64
    obtain ⟨hb, hb2⟩ := pparse_bytes (cutZ s 64)
    have z0 : (ByteArray.mk #[]).size < 2 ^ 30 := by decide
    have z1 : (ByteArray.mk #[]).size ≤ 1000000 := by decide
    have hz := zeros_bytes
    have hd := decI_digL hb2
    refine to (R := bcase (decide ((↑s.size : Int) > (200 : Int))) (K (.tuple (Array.mk [(.agg (Array.mk (refL (ByteArray.mk #[]) (ByteArray.mk #[]) (ByteArray.mk #[]) zerosL false))), (.int .i64 (3 : Int))])) []) (((∃ (c : UInt8), ((ByteArray.mk #[64]) = (ByteArray.mk #[c]))) ∧ (s.size < 1099511627776)) ∧ (bcase (cutF s (oneB (ByteArray.mk #[64]))) (((cutZ s (oneB (ByteArray.mk #[64]))).size < 1099511627776) ∧ (bcase ((pparseE (cutZ s (oneB (ByteArray.mk #[64])))) != (0 : Int)) (K (.tuple (Array.mk [(.agg (Array.mk (refL (ByteArray.mk #[]) (ByteArray.mk #[]) (ByteArray.mk #[]) zerosL false))), (.int .i64 (10 : Int))])) []) (∃ (r : RefT), ((([(VB.row raw 36 [(refL (ByteArray.mk #[]) (ByteArray.mk #[]) (ByteArray.mk #[]) zerosL false)] .own), (VB.row raw 36 [(refL (ByteArray.mk #[]) (ByteArray.mk #[]) (ByteArray.mk #[]) (pparseX (cutZ s (oneB (ByteArray.mk #[64])))) true)] .own)] = [(VB.row raw 36 [(refL zeroR.d zeroR.p zeroR.t zeroR.x false)] .own), (VB.row raw 36 [(refL r.d r.p r.t r.x r.b)] .own)]) ∧ ((RefP r) ∧ (((cutA s (oneB (ByteArray.mk #[64]))).size ≤ 1000) ∧ (((cutF s (oneB (ByteArray.mk #[64]))) = r.b) ∧ (r.t = (ByteArray.mk #[])))))) ∧ (∀ (l : (List Value)), (K (.tuple (Array.mk [(.agg (Array.mk (refL (ptag (cutA s (oneB (ByteArray.mk #[64]))) r.x r.b).fst.d (ptag (cutA s (oneB (ByteArray.mk #[64]))) r.x r.b).fst.p (ptag (cutA s (oneB (ByteArray.mk #[64]))) r.x r.b).fst.t (ptag (cutA s (oneB (ByteArray.mk #[64]))) r.x r.b).fst.x (ptag (cutA s (oneB (ByteArray.mk #[64]))) r.x r.b).fst.b))), (.int .i64 (ptag (cutA s (oneB (ByteArray.mk #[64]))) r.x r.b).snd)])) [])))))) (∃ (r : RefT), ((([(VB.row raw 36 [(refL (ByteArray.mk #[]) (ByteArray.mk #[]) (ByteArray.mk #[]) zerosL false)] .own), (VB.row raw 36 [(refL (ByteArray.mk #[]) (ByteArray.mk #[]) (ByteArray.mk #[]) zerosL false)] .own)] = [(VB.row raw 36 [(refL zeroR.d zeroR.p zeroR.t zeroR.x false)] .own), (VB.row raw 36 [(refL r.d r.p r.t r.x r.b)] .own)]) ∧ ((RefP r) ∧ (((cutA s (oneB (ByteArray.mk #[64]))).size ≤ 1000) ∧ (((cutF s (oneB (ByteArray.mk #[64]))) = r.b) ∧ (r.t = (ByteArray.mk #[])))))) ∧ (∀ (l : (List Value)), (K (.tuple (Array.mk [(.agg (Array.mk (refL (ptag (cutA s (oneB (ByteArray.mk #[64]))) r.x r.b).fst.d (ptag (cutA s (oneB (ByteArray.mk #[64]))) r.x r.b).fst.p (ptag (cutA s (oneB (ByteArray.mk #[64]))) r.x r.b).fst.t (ptag (cutA s (oneB (ByteArray.mk #[64]))) r.x r.b).fst.x (ptag (cutA s (oneB (ByteArray.mk #[64]))) r.x r.b).fst.b))), (.int .i64 (ptag (cutA s (oneB (ByteArray.mk #[64]))) r.x r.b).snd)])) []))))))) (by kernel_rfl) ?_
    simp only [ho]
    refine bcase_of (fun h1 => ?_) (fun h1 => ⟨⟨⟨64, rfl⟩, by omega⟩, bcase_of (fun h2 => ⟨by omega, bcase_of (fun h3 => ?_) (fun h3 => ?_)⟩) (fun h2 => ?_)⟩)
    · simp only [pparse9, h1, cond_true] at hK
      exact hK []
    · simp only [pparse9, h1, h2, h3, cond_true, cond_false] at hK
      exact hK []
    · simp only [pparse9, h1, h2, h3, cond_true, cond_false] at hK
      have := of_decide_eq_false h1
      exact ⟨⟨⟨#[]⟩, ⟨#[]⟩, ⟨#[]⟩, pparseX (cutZ s 64), true⟩, ⟨rfl, ⟨⟨z0, z0, z0, hb, hb2⟩, z1, z1⟩, by omega, h2, rfl⟩, fun _ => hK []⟩
    · simp only [pparse9, h1, h2, cond_false] at hK
      have := of_decide_eq_false h1
      exact ⟨⟨⟨#[]⟩, ⟨#[]⟩, ⟨#[]⟩, zerosL, false⟩, ⟨rfl, ⟨⟨z0, z0, z0, hz, rfl⟩, z1, z1⟩, by omega, h2, rfl⟩, fun _ => hK []⟩
  · cases h
end Go.Proofs.YtofcjkbgieenlaaDoor.PM

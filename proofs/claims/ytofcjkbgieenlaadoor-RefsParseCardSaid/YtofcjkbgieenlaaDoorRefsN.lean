/- Contracts of tag, text, Cut. By an AI agent. -/
import Derived.Test.YtofcjkbgieenlaaDoorRefsM
namespace Go.Proofs.YtofcjkbgieenlaaDoor.PM
open Go Go.Proofs Go.RowKit
set_option maxRecDepth 100000
set_option linter.unusedVariables false
set_option linter.unusedSimpArgs false

/-- Is a byte, at a place, none of a tag? -/
def tagBad (c i : Int) : Bool := !letterB c && (!digitB c && (c != 95 && (i == 0 || (c != 46 && c != 45))))
def tagFrom (s : ByteArray) : Nat → Nat → Bool
  | 0, _ => true
  | d + 1, i => bif tagBad (bt s i) i then false else tagFrom s d (i + 1)
def tagLp : LSpec
  | [(0, .string s), (6, .int .i64 n), (7, .int .i64 i)], [], K => (n = s.size ∧ i = 0 ∧ s.size < 2 ^ 62) ∧ bcase (tagFrom s s.size 0) (K (.exit 0) [(0, .string s)] []) (K .ret [(2, .bool false)] [])
  | _, _, _ => False
theorem tag_rounds (s : ByteArray) (hs : s.size < 2 ^ 62) (K : Kont) : ∀ (d i : Nat), i + d = s.size → bcase (tagFrom s d i) (K (.exit 0) [(0, .string s)] []) (K .ret [(2, .bool false)] []) →
    rnds Tryd.prog (callOf [(44, pureS letterG), (45, pureS digitG)]) (hints 29) noTab (d + 1) (lp Tryd.f29 2) [(0, .string s), (6, .int .i64 s.size), (7, .int .i64 i)] [] K
  | 0, i, hi, hK => by
    refine to (R := bcase (decide ((↑i : Int) < (↑s.size : Int))) (need (decide ((↑i : Int) < (↑s.size : Int))) (True ∧ (bcase (!(letterB (bt s (↑i : Int)))) (True ∧ (bcase (!(digitB (bt s (↑i : Int)))) (bcase ((bt s (↑i : Int)) != (95 : Int)) (bcase ((↑i : Int) == (0 : Int)) (K .ret [(2, (.bool false))] []) (bcase ((bt s (↑i : Int)) != (46 : Int)) (bcase ((bt s (↑i : Int)) != (45 : Int)) (K .ret [(2, (.bool false))] []) (rnds Tryd.prog (callOf [(44, (pureS letterG)), (45, (pureS digitG))]) (hints 29) noTab (nat_lit 0) (lp Tryd.f29 2) [(0, (.string s)), (6, (.int .i64 (↑s.size : Int))), (7, (.int .i64 (IntKind.i64.wrap ((↑i : Int) + (1 : Int)))))] [] K)) (rnds Tryd.prog (callOf [(44, (pureS letterG)), (45, (pureS digitG))]) (hints 29) noTab (nat_lit 0) (lp Tryd.f29 2) [(0, (.string s)), (6, (.int .i64 (↑s.size : Int))), (7, (.int .i64 (IntKind.i64.wrap ((↑i : Int) + (1 : Int)))))] [] K))) (rnds Tryd.prog (callOf [(44, (pureS letterG)), (45, (pureS digitG))]) (hints 29) noTab (nat_lit 0) (lp Tryd.f29 2) [(0, (.string s)), (6, (.int .i64 (↑s.size : Int))), (7, (.int .i64 (IntKind.i64.wrap ((↑i : Int) + (1 : Int)))))] [] K)) (rnds Tryd.prog (callOf [(44, (pureS letterG)), (45, (pureS digitG))]) (hints 29) noTab (nat_lit 0) (lp Tryd.f29 2) [(0, (.string s)), (6, (.int .i64 (↑s.size : Int))), (7, (.int .i64 (IntKind.i64.wrap ((↑i : Int) + (1 : Int)))))] [] K))) (rnds Tryd.prog (callOf [(44, (pureS letterG)), (45, (pureS digitG))]) (hints 29) noTab (nat_lit 0) (lp Tryd.f29 2) [(0, (.string s)), (6, (.int .i64 (↑s.size : Int))), (7, (.int .i64 (IntKind.i64.wrap ((↑i : Int) + (1 : Int)))))] [] K)))) (K (.exit 0) [(0, (.string s))] [])) (by kernel_rfl) ?_
    exact bcase_f (by simp; omega) hK
  | d + 1, i, hi, hK => by
    have hw : IntKind.i64.wrap ((i : Int) + 1) = ((i + 1 : Nat) : Int) := wrap_id (by omega) (by omega)
    have hin : (decide ((0 : Int) ≤ (i : Int)) && decide ((i : Int) < (s.size : Int))) = true := by simp; omega
    have hin2 : decide ((i : Int) < (s.size : Int)) = true := by simp; omega
    have ih := tag_rounds s hs K d (i + 1) (by omega)
    simp only [tagFrom, tagBad] at hK
    obtain ⟨n, hn⟩ : ∃ n, n = d + 1 := ⟨_, rfl⟩; rw [← hn] at ih ⊢
    refine to (R := bcase (decide ((↑i : Int) < (↑s.size : Int))) (need (decide ((↑i : Int) < (↑s.size : Int))) (True ∧ (bcase (!(letterB (bt s (↑i : Int)))) (True ∧ (bcase (!(digitB (bt s (↑i : Int)))) (bcase ((bt s (↑i : Int)) != (95 : Int)) (bcase ((↑i : Int) == (0 : Int)) (K .ret [(2, (.bool false))] []) (bcase ((bt s (↑i : Int)) != (46 : Int)) (bcase ((bt s (↑i : Int)) != (45 : Int)) (K .ret [(2, (.bool false))] []) (rnds Tryd.prog (callOf [(44, (pureS letterG)), (45, (pureS digitG))]) (hints 29) noTab n (lp Tryd.f29 2) [(0, (.string s)), (6, (.int .i64 (↑s.size : Int))), (7, (.int .i64 (IntKind.i64.wrap ((↑i : Int) + (1 : Int)))))] [] K)) (rnds Tryd.prog (callOf [(44, (pureS letterG)), (45, (pureS digitG))]) (hints 29) noTab n (lp Tryd.f29 2) [(0, (.string s)), (6, (.int .i64 (↑s.size : Int))), (7, (.int .i64 (IntKind.i64.wrap ((↑i : Int) + (1 : Int)))))] [] K))) (rnds Tryd.prog (callOf [(44, (pureS letterG)), (45, (pureS digitG))]) (hints 29) noTab n (lp Tryd.f29 2) [(0, (.string s)), (6, (.int .i64 (↑s.size : Int))), (7, (.int .i64 (IntKind.i64.wrap ((↑i : Int) + (1 : Int)))))] [] K)) (rnds Tryd.prog (callOf [(44, (pureS letterG)), (45, (pureS digitG))]) (hints 29) noTab n (lp Tryd.f29 2) [(0, (.string s)), (6, (.int .i64 (↑s.size : Int))), (7, (.int .i64 (IntKind.i64.wrap ((↑i : Int) + (1 : Int)))))] [] K))) (rnds Tryd.prog (callOf [(44, (pureS letterG)), (45, (pureS digitG))]) (hints 29) noTab n (lp Tryd.f29 2) [(0, (.string s)), (6, (.int .i64 (↑s.size : Int))), (7, (.int .i64 (IntKind.i64.wrap ((↑i : Int) + (1 : Int)))))] [] K)))) (K (.exit 0) [(0, (.string s))] [])) (by kernel_rfl) ?_
    rw [hw]
    repeat' first | with_reducible exact trivial | with_reducible refine need_of (by first | first | with_reducible assumption | (simp only [List.length_cons, List.length_nil, Nat.zero_add, Nat.zero_lt_succ, decide_true, Bool.and_true, Bool.and_self]; done) | with_reducible exact pos_of (by assumption) | with_reducible exact pos_of' (by assumption) | omega | (simp only [ByteArray.size_append, sz1, decide_eq_true_eq, *]; omega) | decide | (simp only [Bool.and_true, Bool.and_eq_true, decide_eq_true_eq, ByteArray.size_extract, ByteArray.size_append, sz1, Int.toNat_natCast, List.getD_eq_getElem?_getD, beq_iff_eq, decide_eq_false_iff_not] at *; omega) | ((repeat' constructor) <;> first | rfl | first | with_reducible assumption | (simp only [List.length_cons, List.length_nil, Nat.zero_add, Nat.zero_lt_succ, decide_true, Bool.and_true, Bool.and_self]; done) | with_reducible exact pos_of (by assumption) | with_reducible exact pos_of' (by assumption) | omega | (simp only [ByteArray.size_append, sz1, decide_eq_true_eq, *]; omega) | decide | (simp only [Bool.and_true, Bool.and_eq_true, decide_eq_true_eq, ByteArray.size_extract, ByteArray.size_append, sz1, Int.toNat_natCast, List.getD_eq_getElem?_getD, beq_iff_eq, decide_eq_false_iff_not] at *; omega))) ?_ | with_reducible refine And.intro (by first | first | with_reducible assumption | (simp only [List.length_cons, List.length_nil, Nat.zero_add, Nat.zero_lt_succ, decide_true, Bool.and_true, Bool.and_self]; done) | with_reducible exact pos_of (by assumption) | with_reducible exact pos_of' (by assumption) | omega | (simp only [ByteArray.size_append, sz1, decide_eq_true_eq, *]; omega) | decide | (simp only [Bool.and_true, Bool.and_eq_true, decide_eq_true_eq, ByteArray.size_extract, ByteArray.size_append, sz1, Int.toNat_natCast, List.getD_eq_getElem?_getD, beq_iff_eq, decide_eq_false_iff_not] at *; omega) | ((repeat' constructor) <;> first | rfl | first | with_reducible assumption | (simp only [List.length_cons, List.length_nil, Nat.zero_add, Nat.zero_lt_succ, decide_true, Bool.and_true, Bool.and_self]; done) | with_reducible exact pos_of (by assumption) | with_reducible exact pos_of' (by assumption) | omega | (simp only [ByteArray.size_append, sz1, decide_eq_true_eq, *]; omega) | decide | (simp only [Bool.and_true, Bool.and_eq_true, decide_eq_true_eq, ByteArray.size_extract, ByteArray.size_append, sz1, Int.toNat_natCast, List.getD_eq_getElem?_getD, beq_iff_eq, decide_eq_false_iff_not] at *; omega))) ?_ | with_reducible refine bcase_not ?_ | with_reducible refine bcase_t rfl ?_ | with_reducible refine bcase_f rfl ?_ | with_reducible refine bcase_t (by assumption) ?_ | with_reducible refine bcase_f (by assumption) ?_ | (with_reducible refine bcase_of (fun hx => ?_) (fun hx => ?_) <;> try simp only [hx, bcase_tt, bcase_ff, Int.toNat_natCast, Bool.not_true, Bool.not_false, cond_true, cond_false, Bool.and_true, Bool.and_false, Bool.true_and, Bool.false_and, Bool.or_true, Bool.or_false, Bool.true_or, Bool.false_or] at hK)
    all_goals first | exact hK | exact ih hK
theorem tagLp_ok : CodeOk Tryd.prog Tryd.f29.ntmps (.loop (lp Tryd.f29 2)) tagLp := by
  refine loop_ok (call := callOf [(44, pureS letterG), (45, pureS digitG)]) (hint := hints 29) (tb := noTab) hm (callOf_cons letter_ok.spec (callOf_cons digit_ok.spec callOf_nil)) (by kernel_rfl) (by repeat' first | exact trivial | constructor |  (intro _ h; cases h)) fun fr H K h => ?_
  unfold tagLp at h
  split at h
  · obtain ⟨⟨rfl, rfl, h1⟩, hK⟩ := h
    exact ⟨_, tag_rounds _ h1 _ _ 0 (Nat.zero_add _) hK⟩
  · exact h.elim
def tab29 : Tab := ⟨fun | 2 => some tagLp | _ => none, fun _ => none⟩
def tagS (s : ByteArray) : Bool := tagFrom s s.size 0 && (!isS s [] && decide ((s.size : Int) ≤ 32))
def tagG : Pure
  | [.string s] => some (s.size < 2 ^ 62, .bool (tagS s))
  | _ => none
attribute [irreducible] tagFrom
theorem tag_ok : PureOk Tryd.prog 29 tagG := by
  refine .of_run (call := callOf [(44, pureS letterG), (45, pureS digitG)]) (hint := hints 29) (tb := tab29) hm (callOf_cons letter_ok.spec (callOf_cons digit_ok.spec callOf_nil)) Tryd.func29 (by kernel_rfl) rfl (by kernel_rfl) (by repeat' first | exact trivial | constructor | (intro _ h; cases h; exact tagLp_ok) | (intro _ h; cases h)) fun args c r h => ?_
  unfold tagG at h
  split at h
  · rename_i s
    cases h
    refine ⟨rfl, fun hs => ⟨rfl, 1, fun K hK => ?_⟩⟩
    simp only [tagS, isS] at hK
    refine to (R := (((↑s.size : Int) = (↑s.size : Int)) ∧ (((0 : Int) = (0 : Int)) ∧ (s.size < 4611686018427387904))) ∧ (bcase (tagFrom s s.size 0) (bcase (!(s.toList == (ByteArray.mk #[]).toList)) (K (.bool (decide ((↑s.size : Int) ≤ (32 : Int)))) []) (K (.bool false) [])) (K (.bool false) []))) (by kernel_rfl) ?_
    refine ⟨⟨rfl, rfl, hs⟩, ?_⟩
    repeat' first | with_reducible exact trivial | with_reducible refine need_of (by first | first | with_reducible assumption | (simp only [List.length_cons, List.length_nil, Nat.zero_add, Nat.zero_lt_succ, decide_true, Bool.and_true, Bool.and_self]; done) | with_reducible exact pos_of (by assumption) | with_reducible exact pos_of' (by assumption) | omega | (simp only [ByteArray.size_append, sz1, decide_eq_true_eq, *]; omega) | decide | (simp only [Bool.and_true, Bool.and_eq_true, decide_eq_true_eq, ByteArray.size_extract, ByteArray.size_append, sz1, Int.toNat_natCast, List.getD_eq_getElem?_getD, beq_iff_eq, decide_eq_false_iff_not] at *; omega) | ((repeat' constructor) <;> first | rfl | first | with_reducible assumption | (simp only [List.length_cons, List.length_nil, Nat.zero_add, Nat.zero_lt_succ, decide_true, Bool.and_true, Bool.and_self]; done) | with_reducible exact pos_of (by assumption) | with_reducible exact pos_of' (by assumption) | omega | (simp only [ByteArray.size_append, sz1, decide_eq_true_eq, *]; omega) | decide | (simp only [Bool.and_true, Bool.and_eq_true, decide_eq_true_eq, ByteArray.size_extract, ByteArray.size_append, sz1, Int.toNat_natCast, List.getD_eq_getElem?_getD, beq_iff_eq, decide_eq_false_iff_not] at *; omega))) ?_ | with_reducible refine And.intro (by first | first | with_reducible assumption | (simp only [List.length_cons, List.length_nil, Nat.zero_add, Nat.zero_lt_succ, decide_true, Bool.and_true, Bool.and_self]; done) | with_reducible exact pos_of (by assumption) | with_reducible exact pos_of' (by assumption) | omega | (simp only [ByteArray.size_append, sz1, decide_eq_true_eq, *]; omega) | decide | (simp only [Bool.and_true, Bool.and_eq_true, decide_eq_true_eq, ByteArray.size_extract, ByteArray.size_append, sz1, Int.toNat_natCast, List.getD_eq_getElem?_getD, beq_iff_eq, decide_eq_false_iff_not] at *; omega) | ((repeat' constructor) <;> first | rfl | first | with_reducible assumption | (simp only [List.length_cons, List.length_nil, Nat.zero_add, Nat.zero_lt_succ, decide_true, Bool.and_true, Bool.and_self]; done) | with_reducible exact pos_of (by assumption) | with_reducible exact pos_of' (by assumption) | omega | (simp only [ByteArray.size_append, sz1, decide_eq_true_eq, *]; omega) | decide | (simp only [Bool.and_true, Bool.and_eq_true, decide_eq_true_eq, ByteArray.size_extract, ByteArray.size_append, sz1, Int.toNat_natCast, List.getD_eq_getElem?_getD, beq_iff_eq, decide_eq_false_iff_not] at *; omega))) ?_ | with_reducible refine bcase_not ?_ | with_reducible refine bcase_t rfl ?_ | with_reducible refine bcase_f rfl ?_ | with_reducible refine bcase_t (by assumption) ?_ | with_reducible refine bcase_f (by assumption) ?_ | (with_reducible refine bcase_of (fun hx => ?_) (fun hx => ?_) <;> try simp only [hx, bcase_tt, bcase_ff, Int.toNat_natCast, Bool.not_true, Bool.not_false, cond_true, cond_false, Bool.and_true, Bool.and_false, Bool.true_and, Bool.false_and, Bool.or_true, Bool.or_false, Bool.true_or, Bool.false_or] at hK)
    all_goals (first | done | exact hK [])
  · cases h

/-- A text cut in two. -/
def cutF (s : ByteArray) (c : UInt8) : Bool := decide (Lib.indexByte s.data.toList c ≥ 0)
def cutA (s : ByteArray) (c : UInt8) : ByteArray := bif cutF s c then s.extract 0 (Lib.indexByte s.data.toList c).toNat else s
def cutZ (s : ByteArray) (c : UInt8) : ByteArray := bif cutF s c then s.extract ((Lib.indexByte s.data.toList c).toNat + 1) s.size else ⟨#[]⟩
abbrev cutV (s : ByteArray) (c : UInt8) : Value := .tuple ⟨[.string (cutA s c), .string (cutZ s c), .bool (cutF s c)]⟩
abbrev cutG2 : Pure := two (fun s t => (∃ c, t = ⟨#[c]⟩) ∧ s.size < 2 ^ 40) fun s t => cutV s (oneB t)
theorem indexByte_le (c : UInt8) : ∀ l : List UInt8, -1 ≤ Lib.indexByte l c ∧ Lib.indexByte l c < l.length
  | [] => by simp [Lib.indexByte]
  | b :: l => by
    have := indexByte_le c l
    unfold Lib.indexByte
    split
    · simp only [List.length_cons]; omega
    · split <;> simp only [List.length_cons] <;> omega
theorem cut36_ok : PureOk Tryd.prog 36 cutG2 := by
  refine .of_run (call := callOf [(52, pureS (two (fun s t => ∃ c, t = ⟨#[c]⟩) fun s t => .int .i64 (Lib.indexByte s.data.toList (oneB t))))]) (hint := hints 36) (tb := noTab) hm (callOf_cons index_ok.spec callOf_nil) Tryd.func36 (by kernel_rfl) rfl (by kernel_rfl) (by repeat' first | exact trivial | constructor |  (intro _ h; cases h)) fun args c r h => ?_
  unfold cutG2 two at h
  split at h
  · rename_i s t
    cases h
    refine ⟨rfl, fun hs => ⟨rfl, 1, fun K hK => ?_⟩⟩
    obtain ⟨⟨c, rfl⟩, hs⟩ : (∃ c, t = ⟨#[c]⟩) ∧ s.size < 2 ^ 40 := hs
    have hi := indexByte_le c s.data.toList
    have hl : s.data.toList.length = s.size := li_size s
    have ho : oneB (ByteArray.mk #[c]) = c := rfl
    have hz : (ByteArray.mk #[c]).size = 1 := rfl
    simp only [ho, cutV, cutA, cutZ, cutF] at hK
    refine to (R := (∃ (c_1 : UInt8), ((ByteArray.mk #[c]) = (ByteArray.mk #[c_1]))) ∧ (bcase (decide ((Lib.indexByte s.data.toList (oneB (ByteArray.mk #[c]))) ≥ (0 : Int))) (need ((decide ((0 : Int) ≤ (Lib.indexByte s.data.toList (oneB (ByteArray.mk #[c]))))) && (decide ((Lib.indexByte s.data.toList (oneB (ByteArray.mk #[c]))) ≤ (↑s.size : Int)))) (need ((decide ((0 : Int) ≤ (IntKind.i64.wrap ((Lib.indexByte s.data.toList (oneB (ByteArray.mk #[c]))) + (↑(ByteArray.mk #[c]).size : Int))))) && ((decide ((IntKind.i64.wrap ((Lib.indexByte s.data.toList (oneB (ByteArray.mk #[c]))) + (↑(ByteArray.mk #[c]).size : Int))) ≤ (↑s.size : Int))) && (decide ((↑s.size : Int) ≤ (↑s.size : Int))))) (K (.tuple (Array.mk [(.string (s.extract 0 (Lib.indexByte s.data.toList (oneB (ByteArray.mk #[c]))).toNat)), (.string (s.extract (IntKind.i64.wrap ((Lib.indexByte s.data.toList (oneB (ByteArray.mk #[c]))) + (↑(ByteArray.mk #[c]).size : Int))).toNat (↑s.size : Int).toNat)), (.bool true)])) []))) (K (.tuple (Array.mk [(.string s), (.string (ByteArray.mk #[])), (.bool false)])) []))) (by kernel_rfl) ?_
    simp only [ho, hz]
    refine ⟨⟨c, rfl⟩, bcase_of (fun h => ?_) (fun h => ?_)⟩
    · have h0 := of_decide_eq_true h
      have hw : IntKind.i64.wrap (Lib.indexByte s.data.toList c + ((1 : Nat) : Int)) = ((Lib.indexByte s.data.toList c).toNat + 1 : Nat) := by
        rw [wrap_id (by omega) (by omega)]; omega
      simp only [h, cond_true] at hK
      rw [hw]
      exact need_of (by simp; omega) (need_of (by simp; omega) (hK []))
    · simp only [h, cond_false] at hK
      exact hK []
  · cases h
attribute [irreducible] cutA cutZ cutF
theorem cut_ok' : PureOk Tryd.prog 18 cutG2 := by
  refine .of_run (call := callOf [(36, pureS cutG2)]) (hint := hints 18) (tb := noTab) hm (callOf_cons cut36_ok.spec callOf_nil) Tryd.func18 (by kernel_rfl) rfl (by kernel_rfl) (by repeat' first | exact trivial | constructor |  (intro _ h; cases h)) fun args c r h => ?_
  unfold cutG2 two at h
  split at h
  · rename_i s t
    cases h
    refine ⟨rfl, fun hs => ⟨rfl, 1, fun K hK => ?_⟩⟩
    refine to (R := ((∃ (c : UInt8), (t = (ByteArray.mk #[c]))) ∧ (s.size < 1099511627776)) ∧ (K (.tuple (Array.mk [(.string (cutA s (oneB t))), (.string (cutZ s (oneB t))), (.bool (cutF s (oneB t)))])) [])) (by kernel_rfl) ?_
    exact ⟨hs, hK []⟩
  · cases h
theorem lastIndex_ok : PureOk Tryd.prog 20 (fun
    | [.string s, .int .u8 c] => some (s.size < 4611686018427387904, .int .i64 (Lib.lastIndexByte s c))
    | _ => none) :=
  .of_shelf Tryd.func20 (by kernel_rfl) rfl fun args c r hg => by
    split at hg
    · rename_i s c
      cases hg
      exact ⟨rfl, fun hcc => ⟨rfl, fun w => (Tryd.strings_LastIndexByte s c hcc w).mono fun e w' k => ⟨k.1, by rw [k.2]; exact Below.refl _ _⟩⟩⟩
    · cases hg
end Go.Proofs.YtofcjkbgieenlaaDoor.PM

/- Contracts of strings.ContainsAny at the set that told looks for, told, Trim, port, Contains, split. By an AI agent. -/
import Derived.Test.YtofcjkbgieenlaaDoorRefsR
import Derived.Shelf.Strings.SlTrimAscii
namespace Go.Proofs.YtofcjkbgieenlaaDoor.PM
open Go Go.Proofs Go.RowKit
set_option maxRecDepth 100000
set_option linter.unusedVariables false
set_option linter.unusedSimpArgs false

def iaV (s : ByteArray) : Int := bif decide (s.size ≤ 8) then (bif decide (iaFrom s 9 0 ≥ 0) then iaFrom s 9 0 else -1) else Lib.indexAny s.data.toList dots.data.toList
def hasDot (s : ByteArray) : Bool := decide (Lib.indexAny (li s) two58 ≥ 0)
theorem iaV_dot (s : ByteArray) : decide (iaV s ≥ 0) = hasDot s := by
  unfold iaV hasDot
  by_cases h : s.size ≤ 8
  · rw [decide_eq_true h, cond_true]
    have := ia_law s 9 0 (by omega)
    rw [List.drop_zero] at this
    rw [← decide_eq_decide.2 this]
    by_cases h2 : iaFrom s 9 0 ≥ 0
    · rw [decide_eq_true h2, cond_true, decide_eq_true h2]
    · rw [decide_eq_false h2, cond_false]; rfl
  · rw [decide_eq_false h, cond_false]
def iaG' : Pure
  | [.string s, .string t] => some (t = dots ∧ s.size < 2 ^ 31, .int .i64 (iaV s))
  | _ => none
theorem zero82 : (∀ w, (zeroValue 82).run Tryd.prog w = .ok (.agg (Array.replicate 256 (.bool false))) w) ∧ (Tryd.prog.info? 82).map (·.size) = some 256 := Go.zero_of_info (P := Tryd.prog) (t := 82) (v := .agg (Array.replicate 256 (.bool false))) (n := 256) (by kernel_rfl)
theorem ia_ok' : PureOk Tryd.prog 61 iaG' where
  enter := ia_ok.enter
  args args c r hg := by
    unfold iaG' at hg
    split at hg
    · cases hg; rfl
    · cases hg
  meets args c r hg hcc := by
    unfold iaG' at hg
    split at hg
    · rename_i s t
      cases hg
      obtain ⟨rfl, hs⟩ := hcc
      by_cases h : s.size ≤ 8
      · have := ia_ok.meets [.string s, .string dots] _ _ rfl ⟨rfl, h⟩
        unfold iaV
        rw [decide_eq_true h, cond_true]
        exact this
      · refine ⟨rfl, .of_calls rfl rfl fun w => ?_⟩
        have := Tryd.strings_IndexAny_long zero82.1 s dots w (by show 2 ≤ 2; omega) (by omega) (by omega) (by show 2 < _; omega) (fun j b hj => by
          match j, hj with
          | 0, hj => cases hj; decide
          | 1, hj => cases hj; decide
          | n + 2, hj => cases hj)
        unfold iaV
        rw [decide_eq_false h, cond_false]
        refine this.mono fun e w' k => ⟨k.1, ?_⟩
        rw [k.2]
        exact ((Below.refl _ w).alloc (Nat.le_refl _) _).alloc (by simp) _
    · cases hg
theorem hasAny_ok : PureOk Tryd.prog 46 (two (fun s t => t = dots ∧ s.size < 2 ^ 31) fun s t => .bool (hasDot s)) := by
  refine .of_run (call := callOf [(61, pureS iaG')]) (hint := hints 46) (tb := noTab) hm (callOf_cons ia_ok'.spec callOf_nil) Tryd.func46 (by kernel_rfl) rfl (by kernel_rfl) (by repeat' first | exact trivial | constructor |  (intro _ h; cases h)) fun args c r h => ?_
  unfold two at h
  split at h
  · rename_i s t
    cases h
    refine ⟨rfl, fun hs => ⟨rfl, 1, fun K hK => ?_⟩⟩
    have hK : K (.bool (hasDot s)) [] := hK []
    rw [← iaV_dot] at hK
    refine to (R := ((t = dots) ∧ (s.size < 2147483648)) ∧ (K (.bool (decide ((iaV s) ≥ (0 : Int)))) [])) (by kernel_rfl) ?_
    exact ⟨hs, hK⟩
  · cases h
def toldS (s : ByteArray) : Bool := hasDot s || isS s [108, 111, 99, 97, 108, 104, 111, 115, 116]
def toldG : Pure
  | [.string s] => some (s.size < 2 ^ 31, .bool (toldS s))
  | _ => none
theorem told_ok : PureOk Tryd.prog 30 toldG := by
  refine .of_run (call := callOf [(46, pureS (two (fun s t => t = dots ∧ s.size < 2 ^ 31) fun s t => .bool (hasDot s)))]) (hint := hints 30) (tb := noTab) hm (callOf_cons hasAny_ok.spec callOf_nil) Tryd.func30 (by kernel_rfl) rfl (by kernel_rfl) (by repeat' first | exact trivial | constructor |  (intro _ h; cases h)) fun args c r h => ?_
  unfold toldG at h
  split at h
  · rename_i s
    cases h
    refine ⟨rfl, fun hs => ⟨rfl, 1, fun K hK => ?_⟩⟩
    simp only [toldS, isS] at hK
    refine to (R := (((ByteArray.mk #[46, 58]) = dots) ∧ (s.size < 2147483648)) ∧ (bcase (hasDot s) (K (.bool true) []) (K (.bool (s.toList == (ByteArray.mk #[108, 111, 99, 97, 108, 104, 111, 115, 116]).toList)) []))) (by kernel_rfl) ?_
    refine ⟨⟨rfl, hs⟩, ?_⟩
    repeat' first | with_reducible exact trivial | with_reducible refine need_of (by first | first | with_reducible assumption | (simp only [List.length_cons, List.length_nil, Nat.zero_add, Nat.zero_lt_succ, decide_true, Bool.and_true, Bool.and_self]; done) | with_reducible exact pos_of (by assumption) | with_reducible exact pos_of' (by assumption) | omega | (simp only [ByteArray.size_append, sz1, decide_eq_true_eq, *]; omega) | decide | (simp only [Bool.and_true, Bool.and_eq_true, decide_eq_true_eq, ByteArray.size_extract, ByteArray.size_append, sz1, Int.toNat_natCast, List.getD_eq_getElem?_getD, beq_iff_eq, decide_eq_false_iff_not] at *; omega) | ((repeat' constructor) <;> first | rfl | first | with_reducible assumption | (simp only [List.length_cons, List.length_nil, Nat.zero_add, Nat.zero_lt_succ, decide_true, Bool.and_true, Bool.and_self]; done) | with_reducible exact pos_of (by assumption) | with_reducible exact pos_of' (by assumption) | omega | (simp only [ByteArray.size_append, sz1, decide_eq_true_eq, *]; omega) | decide | (simp only [Bool.and_true, Bool.and_eq_true, decide_eq_true_eq, ByteArray.size_extract, ByteArray.size_append, sz1, Int.toNat_natCast, List.getD_eq_getElem?_getD, beq_iff_eq, decide_eq_false_iff_not] at *; omega))) ?_ | with_reducible refine And.intro (by first | first | with_reducible assumption | (simp only [List.length_cons, List.length_nil, Nat.zero_add, Nat.zero_lt_succ, decide_true, Bool.and_true, Bool.and_self]; done) | with_reducible exact pos_of (by assumption) | with_reducible exact pos_of' (by assumption) | omega | (simp only [ByteArray.size_append, sz1, decide_eq_true_eq, *]; omega) | decide | (simp only [Bool.and_true, Bool.and_eq_true, decide_eq_true_eq, ByteArray.size_extract, ByteArray.size_append, sz1, Int.toNat_natCast, List.getD_eq_getElem?_getD, beq_iff_eq, decide_eq_false_iff_not] at *; omega) | ((repeat' constructor) <;> first | rfl | first | with_reducible assumption | (simp only [List.length_cons, List.length_nil, Nat.zero_add, Nat.zero_lt_succ, decide_true, Bool.and_true, Bool.and_self]; done) | with_reducible exact pos_of (by assumption) | with_reducible exact pos_of' (by assumption) | omega | (simp only [ByteArray.size_append, sz1, decide_eq_true_eq, *]; omega) | decide | (simp only [Bool.and_true, Bool.and_eq_true, decide_eq_true_eq, ByteArray.size_extract, ByteArray.size_append, sz1, Int.toNat_natCast, List.getD_eq_getElem?_getD, beq_iff_eq, decide_eq_false_iff_not] at *; omega))) ?_ | with_reducible refine bcase_not ?_ | with_reducible refine bcase_t rfl ?_ | with_reducible refine bcase_f rfl ?_ | with_reducible refine bcase_t (by assumption) ?_ | with_reducible refine bcase_f (by assumption) ?_ | (with_reducible refine bcase_of (fun hx => ?_) (fun hx => ?_) <;> try simp only [hx, bcase_tt, bcase_ff, Int.toNat_natCast, Bool.not_true, Bool.not_false, cond_true, cond_false, Bool.and_true, Bool.and_false, Bool.true_and, Bool.false_and, Bool.or_true, Bool.or_false, Bool.true_or, Bool.false_or] at hK)
    all_goals exact hK []
  · cases h
abbrev digits10 : ByteArray := (ByteArray.mk #[48, 49, 50, 51, 52, 53, 54, 55, 56, 57])
def trimG : Pure := two (fun s t => t = digits10 ∧ 0 < s.size ∧ s.size < 2 ^ 31) fun s t => .string ⟨(Lib.trimS s.data.toList t.data.toList).toArray⟩
theorem trim_ok : PureOk Tryd.prog 62 trimG :=
  .of_shelf Tryd.func62 (by kernel_rfl) rfl fun args c r hg => by
    unfold trimG two at hg
    split at hg
    · rename_i s t
      cases hg
      refine ⟨rfl, fun hcc => ⟨rfl, fun w => ?_⟩⟩
      obtain ⟨rfl, h0, hs⟩ : t = digits10 ∧ 0 < s.size ∧ s.size < 2 ^ 31 := hcc
      have := Any.strings_Trim_set Tryd.lays160 zero82.1 zero82.2 s digits10 w (by show 2 ≤ 10; omega) h0 (by omega) (by show 10 < _; omega) (fun j b hj => by
        have : ∀ b ∈ digits10.data.toList, b.toNat < 128 := by decide
        exact this b (List.mem_of_getElem? hj))
      refine this.mono fun e w' k => ⟨k.1, ?_⟩
      obtain ⟨q, hq⟩ := k.2
      rw [hq]
      exact (((Below.refl _ w).alloc (Nat.le_refl _) _).alloc (by simp) _).trans ⟨rfl, rfl, rfl, Nat.le_refl _, fun _ _ => rfl⟩
    · cases hg
def portS (s : ByteArray) : Bool := decide ((s.size : Int) ≥ 1) && (decide ((s.size : Int) ≤ 5) && isS ⟨(Lib.trimS s.data.toList digits10.data.toList).toArray⟩ [])
def portG : Pure
  | [.string s] => some (s.size < 2 ^ 31, .bool (portS s))
  | _ => none
theorem port_ok : PureOk Tryd.prog 47 portG := by
  refine .of_run (call := callOf [(62, pureS trimG)]) (hint := hints 47) (tb := noTab) hm (callOf_cons trim_ok.spec callOf_nil) Tryd.func47 (by kernel_rfl) rfl (by kernel_rfl) (by repeat' first | exact trivial | constructor |  (intro _ h; cases h)) fun args c r h => ?_
  unfold portG at h
  split at h
  · rename_i s
    cases h
    refine ⟨rfl, fun hs => ⟨rfl, 1, fun K hK => ?_⟩⟩
    simp only [portS, isS] at hK
    refine to (R := bcase (decide ((↑s.size : Int) ≥ (1 : Int))) (bcase (decide ((↑s.size : Int) ≤ (5 : Int))) ((((ByteArray.mk #[48, 49, 50, 51, 52, 53, 54, 55, 56, 57]) = digits10) ∧ ((0 < s.size) ∧ (s.size < 2147483648))) ∧ (K (.bool ((ByteArray.mk (Lib.trimS s.data.toList (ByteArray.mk #[48, 49, 50, 51, 52, 53, 54, 55, 56, 57]).data.toList).toArray).toList == (ByteArray.mk #[]).toList)) [])) (K (.bool false) [])) (K (.bool false) [])) (by kernel_rfl) ?_
    refine bcase_of (fun h1 => bcase_of (fun h2 => ⟨⟨rfl, by have := of_decide_eq_true h1; omega, hs⟩, ?_⟩) (fun h2 => ?_)) (fun h1 => ?_)
    · try simp only [h1, h2, bcase_tt, bcase_ff, Int.toNat_natCast, Bool.not_true, Bool.not_false, cond_true, cond_false, Bool.and_true, Bool.and_false, Bool.true_and, Bool.false_and, Bool.or_true, Bool.or_false, Bool.true_or, Bool.false_or] at hK
      exact hK []
    · try simp only [h1, h2, bcase_tt, bcase_ff, Int.toNat_natCast, Bool.not_true, Bool.not_false, cond_true, cond_false, Bool.and_true, Bool.and_false, Bool.true_and, Bool.false_and, Bool.or_true, Bool.or_false, Bool.true_or, Bool.false_or] at hK
      exact hK []
    · try simp only [h1, bcase_tt, bcase_ff, Int.toNat_natCast, Bool.not_true, Bool.not_false, cond_true, cond_false, Bool.and_true, Bool.and_false, Bool.true_and, Bool.false_and, Bool.or_true, Bool.or_false, Bool.true_or, Bool.false_or] at hK
      exact hK []
  · cases h
def splitD (s : ByteArray) : ByteArray := bif cutF s 47 && toldS (cutA s 47) then cutA s 47 else ⟨#[]⟩
def splitR (s : ByteArray) : ByteArray := bif cutF s 47 && toldS (cutA s 47) then cutZ s 47 else s
def splitG : Pure
  | [.string s] => some (s.size < 2 ^ 31, .tuple ⟨[.string (splitD s), .string (splitR s)]⟩)
  | _ => none
theorem cutA_size (s : ByteArray) (c : UInt8) : (cutA s c).size ≤ s.size := by
  unfold cutA
  cases cutF s c
  · exact Nat.le_refl _
  · show (s.extract _ _).size ≤ _
    rw [ByteArray.size_extract]
    omega
attribute [irreducible] toldS
theorem split_ok : PureOk Tryd.prog 22 splitG := by
  refine .of_run (call := callOf [(18, pureS cutG2), (30, pureS toldG)]) (hint := hints 22) (tb := noTab) hm (callOf_cons cut_ok'.spec (callOf_cons told_ok.spec callOf_nil)) Tryd.func22 (by kernel_rfl) rfl (by kernel_rfl) (by repeat' first | exact trivial | constructor |  (intro _ h; cases h)) fun args c r h => ?_
  unfold splitG at h
  split at h
  · rename_i s
    cases h
    refine ⟨rfl, fun hs => ⟨rfl, 1, fun K hK => ?_⟩⟩
    have ho : oneB (ByteArray.mk #[47]) = 47 := rfl
    have hsz := cutA_size s 47
    simp only [splitD, splitR] at hK
    refine to (R := ((∃ (c : UInt8), ((ByteArray.mk #[47]) = (ByteArray.mk #[c]))) ∧ (s.size < 1099511627776)) ∧ (bcase (cutF s (oneB (ByteArray.mk #[47]))) (((cutA s (oneB (ByteArray.mk #[47]))).size < 2147483648) ∧ (bcase (toldS (cutA s (oneB (ByteArray.mk #[47])))) (K (.tuple (Array.mk [(.string (cutA s (oneB (ByteArray.mk #[47])))), (.string (cutZ s (oneB (ByteArray.mk #[47]))))])) []) (K (.tuple (Array.mk [(.string (ByteArray.mk #[])), (.string s)])) []))) (K (.tuple (Array.mk [(.string (ByteArray.mk #[])), (.string s)])) []))) (by kernel_rfl) ?_
    simp only [ho]
    refine ⟨⟨⟨47, rfl⟩, by omega⟩, ?_⟩
    repeat' first | with_reducible exact trivial | with_reducible refine need_of (by first | first | with_reducible assumption | (simp only [List.length_cons, List.length_nil, Nat.zero_add, Nat.zero_lt_succ, decide_true, Bool.and_true, Bool.and_self]; done) | with_reducible exact pos_of (by assumption) | with_reducible exact pos_of' (by assumption) | omega | (simp only [ByteArray.size_append, sz1, decide_eq_true_eq, *]; omega) | decide | (simp only [Bool.and_true, Bool.and_eq_true, decide_eq_true_eq, ByteArray.size_extract, ByteArray.size_append, sz1, Int.toNat_natCast, List.getD_eq_getElem?_getD, beq_iff_eq, decide_eq_false_iff_not] at *; omega) | ((repeat' constructor) <;> first | rfl | first | with_reducible assumption | (simp only [List.length_cons, List.length_nil, Nat.zero_add, Nat.zero_lt_succ, decide_true, Bool.and_true, Bool.and_self]; done) | with_reducible exact pos_of (by assumption) | with_reducible exact pos_of' (by assumption) | omega | (simp only [ByteArray.size_append, sz1, decide_eq_true_eq, *]; omega) | decide | (simp only [Bool.and_true, Bool.and_eq_true, decide_eq_true_eq, ByteArray.size_extract, ByteArray.size_append, sz1, Int.toNat_natCast, List.getD_eq_getElem?_getD, beq_iff_eq, decide_eq_false_iff_not] at *; omega))) ?_ | with_reducible refine And.intro (by first | first | with_reducible assumption | (simp only [List.length_cons, List.length_nil, Nat.zero_add, Nat.zero_lt_succ, decide_true, Bool.and_true, Bool.and_self]; done) | with_reducible exact pos_of (by assumption) | with_reducible exact pos_of' (by assumption) | omega | (simp only [ByteArray.size_append, sz1, decide_eq_true_eq, *]; omega) | decide | (simp only [Bool.and_true, Bool.and_eq_true, decide_eq_true_eq, ByteArray.size_extract, ByteArray.size_append, sz1, Int.toNat_natCast, List.getD_eq_getElem?_getD, beq_iff_eq, decide_eq_false_iff_not] at *; omega) | ((repeat' constructor) <;> first | rfl | first | with_reducible assumption | (simp only [List.length_cons, List.length_nil, Nat.zero_add, Nat.zero_lt_succ, decide_true, Bool.and_true, Bool.and_self]; done) | with_reducible exact pos_of (by assumption) | with_reducible exact pos_of' (by assumption) | omega | (simp only [ByteArray.size_append, sz1, decide_eq_true_eq, *]; omega) | decide | (simp only [Bool.and_true, Bool.and_eq_true, decide_eq_true_eq, ByteArray.size_extract, ByteArray.size_append, sz1, Int.toNat_natCast, List.getD_eq_getElem?_getD, beq_iff_eq, decide_eq_false_iff_not] at *; omega))) ?_ | with_reducible refine bcase_not ?_ | with_reducible refine bcase_t rfl ?_ | with_reducible refine bcase_f rfl ?_ | with_reducible refine bcase_t (by assumption) ?_ | with_reducible refine bcase_f (by assumption) ?_ | (with_reducible refine bcase_of (fun hx => ?_) (fun hx => ?_) <;> try simp only [hx, bcase_tt, bcase_ff, Int.toNat_natCast, Bool.not_true, Bool.not_false, cond_true, cond_false, Bool.and_true, Bool.and_false, Bool.true_and, Bool.false_and, Bool.or_true, Bool.or_false, Bool.true_or, Bool.false_or] at hK)
    all_goals exact hK []
  · cases h
end Go.Proofs.YtofcjkbgieenlaaDoor.PM

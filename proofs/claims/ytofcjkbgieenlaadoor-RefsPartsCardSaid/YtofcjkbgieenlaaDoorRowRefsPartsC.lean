/- Contracts of functions of the reference: part, path, domain. Contracts of functions of the reference of digests: digit, value, Text. Contracts of functions of the reference of digests: Parse. Contracts of functions of the reference of names: text. Contracts of functions of the reference of names: Check. What the reference's cut tells, on lists of bytes. Contracts of functions of the reference of names: Parse, Text, Short. Contracts of functions of the reference of names: Parse. Contract of the reference's Parse of names. Contracts of the library's functions, of the shelf, and of word, parted, part. Contracts of tag, text, Cut. Contract of digests.digits (a Builder): by the kit's walk. Contracts of digests.Text, refs.text. By an AI agent. -/
import Derived.Test.YtofcjkbgieenlaaDoorRowRefsPartsB
import Derived.Deep.WholeRow
set_option linter.unusedVariables false
set_option linter.unusedSimpArgs false
namespace Go.Proofs.YtofcjkbgieenlaaDoor.PM
open Go Go.Proofs
set_option maxRecDepth 100000
set_option linter.unusedVariables false

theorem bcase_bool {b : Bool} {H : VH} {K : Value → VH → Prop} (h : K (.bool b) H) : bcase b (K (.bool true) H) (K (.bool false) H) := by cases b <;> exact h
abbrev wordT : ByteArray := ⟨#[97,98,99,100,101,102,103,104,105,106,107,108,109,110,111,112,113,114,115,116,117,118,119,120,121,122,48,49,50,51,52,53,54,55,56,57]⟩
abbrev partT : ByteArray := ⟨#[97,98,99,100,101,102,103,104,105,106,107,108,109,110,111,112,113,114,115,116,117,118,119,120,121,122,48,49,50,51,52,53,54,55,56,57,46,95,45]⟩
abbrev ofS (s t : ByteArray) : Bool := ofFrom s t 0 s.size
/-- Is it no gap? -/
def badGap (g : ByteArray) : Bool :=
  !isS g [] && (!isS g [46] && (!isS g [95] && (!isS g [95, 95] && !ofS g ⟨#[45]⟩)))
def partFrom (s : ByteArray) : Nat → Nat → ByteArray → Bool
  | 0, _, _ => true
  | d + 1, i, g => bif !ofS (s.extract i (i + 1)) wordT then partFrom s d (i + 1) (g ++ s.extract i (i + 1)) else (bif badGap g then false else partFrom s d (i + 1) ⟨#[]⟩)
def partS (s : ByteArray) : Bool :=
  bif isS s [] || (!ofS s partT || (!ofS (s.extract 0 1) wordT || !ofS (s.extract (s.size - 1) s.size) wordT)) then false else partFrom s s.size 0 ⟨#[]⟩
def partLp : LSpec
  | [(0, .string s), (3, .string g), (4, .int .i64 i)], [], K => (i = 0 ∧ g = ⟨#[]⟩ ∧ s.size < 2 ^ 40) ∧ bcase (partFrom s s.size 0 ⟨#[]⟩) (K (.exit 0) [] []) (K .ret [(2, .bool false)] [])
  | _, _, _ => False
theorem part_rounds (s : ByteArray) (hs : s.size < 2 ^ 40) (K : Kont) : ∀ (d i : Nat) (g : ByteArray), i + d = s.size → g.size ≤ i →
    bcase (partFrom s d i g) (K (.exit 0) [] []) (K .ret [(2, .bool false)] []) →
    rnds Tryd.prog (callOf [(35, pureS ofG)]) (hints 51) noTab (d + 1) (lp Tryd.f51 5) [(0, .string s), (3, .string g), (4, .int .i64 i)] [] K
  | 0, i, g, hi, hg, hK => by
    refine to (R := bcase (decide ((↑i : Int) < (↑s.size : Int))) (need ((decide ((↑i : Int) ≤ (IntKind.i64.wrap ((↑i : Int) + (1 : Int))))) && (decide ((IntKind.i64.wrap ((↑i : Int) + (1 : Int))) ≤ (↑s.size : Int)))) ((((s.extract (↑i : Int).toNat (IntKind.i64.wrap ((↑i : Int) + (1 : Int))).toNat).size < (2 ^ 62)) ∧ ((ByteArray.mk #[97, 98, 99, 100, 101, 102, 103, 104, 105, 106, 107, 108, 109, 110, 111, 112, 113, 114, 115, 116, 117, 118, 119, 120, 121, 122, 48, 49, 50, 51, 52, 53, 54, 55, 56, 57]).size < (2 ^ 62))) ∧ (bcase (!(ofFrom (s.extract (↑i : Int).toNat (IntKind.i64.wrap ((↑i : Int) + (1 : Int))).toNat) (ByteArray.mk #[97, 98, 99, 100, 101, 102, 103, 104, 105, 106, 107, 108, 109, 110, 111, 112, 113, 114, 115, 116, 117, 118, 119, 120, 121, 122, 48, 49, 50, 51, 52, 53, 54, 55, 56, 57]) 0 (s.extract (↑i : Int).toNat (IntKind.i64.wrap ((↑i : Int) + (1 : Int))).toNat).size)) (need ((decide ((↑i : Int) ≤ (IntKind.i64.wrap ((↑i : Int) + (1 : Int))))) && (decide ((IntKind.i64.wrap ((↑i : Int) + (1 : Int))) ≤ (↑s.size : Int)))) (need (decide ((g.size + (s.extract (↑i : Int).toNat (IntKind.i64.wrap ((↑i : Int) + (1 : Int))).toNat).size) < 9223372036854775808)) (rnds Tryd.prog (callOf [(35, (pureS ofG))]) (hints 51) noTab (nat_lit 0) (lp Tryd.f51 5) [(0, (.string s)), (3, (.string (g ++ (s.extract (↑i : Int).toNat (IntKind.i64.wrap ((↑i : Int) + (1 : Int))).toNat)))), (4, (.int .i64 (IntKind.i64.wrap ((↑i : Int) + (1 : Int)))))] [] K))) (bcase (!(g.toList == (ByteArray.mk #[]).toList)) (bcase (!(g.toList == (ByteArray.mk #[46]).toList)) (bcase (!(g.toList == (ByteArray.mk #[95]).toList)) (bcase (!(g.toList == (ByteArray.mk #[95, 95]).toList)) (((g.size < (2 ^ 62)) ∧ ((ByteArray.mk #[45]).size < (2 ^ 62))) ∧ (bcase (!(ofFrom g (ByteArray.mk #[45]) 0 g.size)) (K .ret [(2, (.bool false))] []) (rnds Tryd.prog (callOf [(35, (pureS ofG))]) (hints 51) noTab (nat_lit 0) (lp Tryd.f51 5) [(0, (.string s)), (3, (.string (ByteArray.mk #[]))), (4, (.int .i64 (IntKind.i64.wrap ((↑i : Int) + (1 : Int)))))] [] K))) (rnds Tryd.prog (callOf [(35, (pureS ofG))]) (hints 51) noTab (nat_lit 0) (lp Tryd.f51 5) [(0, (.string s)), (3, (.string (ByteArray.mk #[]))), (4, (.int .i64 (IntKind.i64.wrap ((↑i : Int) + (1 : Int)))))] [] K)) (rnds Tryd.prog (callOf [(35, (pureS ofG))]) (hints 51) noTab (nat_lit 0) (lp Tryd.f51 5) [(0, (.string s)), (3, (.string (ByteArray.mk #[]))), (4, (.int .i64 (IntKind.i64.wrap ((↑i : Int) + (1 : Int)))))] [] K)) (rnds Tryd.prog (callOf [(35, (pureS ofG))]) (hints 51) noTab (nat_lit 0) (lp Tryd.f51 5) [(0, (.string s)), (3, (.string (ByteArray.mk #[]))), (4, (.int .i64 (IntKind.i64.wrap ((↑i : Int) + (1 : Int)))))] [] K)) (rnds Tryd.prog (callOf [(35, (pureS ofG))]) (hints 51) noTab (nat_lit 0) (lp Tryd.f51 5) [(0, (.string s)), (3, (.string (ByteArray.mk #[]))), (4, (.int .i64 (IntKind.i64.wrap ((↑i : Int) + (1 : Int)))))] [] K))))) (K (.exit 0) [] [])) (by kernel_rfl) ?_
    exact bcase_f (by simp; omega) hK
  | d + 1, i, g, hi, hg, hK => by
    have hw : IntKind.i64.wrap ((i : Int) + 1) = ((i + 1 : Nat) : Int) := wrap_id (by omega) (by omega)
    have ih := part_rounds s hs K d (i + 1)
    refine to (R := bcase (decide ((↑i : Int) < (↑s.size : Int))) (need ((decide ((↑i : Int) ≤ (IntKind.i64.wrap ((↑i : Int) + (1 : Int))))) && (decide ((IntKind.i64.wrap ((↑i : Int) + (1 : Int))) ≤ (↑s.size : Int)))) ((((s.extract (↑i : Int).toNat (IntKind.i64.wrap ((↑i : Int) + (1 : Int))).toNat).size < (2 ^ 62)) ∧ ((ByteArray.mk #[97, 98, 99, 100, 101, 102, 103, 104, 105, 106, 107, 108, 109, 110, 111, 112, 113, 114, 115, 116, 117, 118, 119, 120, 121, 122, 48, 49, 50, 51, 52, 53, 54, 55, 56, 57]).size < (2 ^ 62))) ∧ (bcase (!(ofFrom (s.extract (↑i : Int).toNat (IntKind.i64.wrap ((↑i : Int) + (1 : Int))).toNat) (ByteArray.mk #[97, 98, 99, 100, 101, 102, 103, 104, 105, 106, 107, 108, 109, 110, 111, 112, 113, 114, 115, 116, 117, 118, 119, 120, 121, 122, 48, 49, 50, 51, 52, 53, 54, 55, 56, 57]) 0 (s.extract (↑i : Int).toNat (IntKind.i64.wrap ((↑i : Int) + (1 : Int))).toNat).size)) (need ((decide ((↑i : Int) ≤ (IntKind.i64.wrap ((↑i : Int) + (1 : Int))))) && (decide ((IntKind.i64.wrap ((↑i : Int) + (1 : Int))) ≤ (↑s.size : Int)))) (need (decide ((g.size + (s.extract (↑i : Int).toNat (IntKind.i64.wrap ((↑i : Int) + (1 : Int))).toNat).size) < 9223372036854775808)) (rnds Tryd.prog (callOf [(35, (pureS ofG))]) (hints 51) noTab (d + 1) (lp Tryd.f51 5) [(0, (.string s)), (3, (.string (g ++ (s.extract (↑i : Int).toNat (IntKind.i64.wrap ((↑i : Int) + (1 : Int))).toNat)))), (4, (.int .i64 (IntKind.i64.wrap ((↑i : Int) + (1 : Int)))))] [] K))) (bcase (!(g.toList == (ByteArray.mk #[]).toList)) (bcase (!(g.toList == (ByteArray.mk #[46]).toList)) (bcase (!(g.toList == (ByteArray.mk #[95]).toList)) (bcase (!(g.toList == (ByteArray.mk #[95, 95]).toList)) (((g.size < (2 ^ 62)) ∧ ((ByteArray.mk #[45]).size < (2 ^ 62))) ∧ (bcase (!(ofFrom g (ByteArray.mk #[45]) 0 g.size)) (K .ret [(2, (.bool false))] []) (rnds Tryd.prog (callOf [(35, (pureS ofG))]) (hints 51) noTab (d + 1) (lp Tryd.f51 5) [(0, (.string s)), (3, (.string (ByteArray.mk #[]))), (4, (.int .i64 (IntKind.i64.wrap ((↑i : Int) + (1 : Int)))))] [] K))) (rnds Tryd.prog (callOf [(35, (pureS ofG))]) (hints 51) noTab (d + 1) (lp Tryd.f51 5) [(0, (.string s)), (3, (.string (ByteArray.mk #[]))), (4, (.int .i64 (IntKind.i64.wrap ((↑i : Int) + (1 : Int)))))] [] K)) (rnds Tryd.prog (callOf [(35, (pureS ofG))]) (hints 51) noTab (d + 1) (lp Tryd.f51 5) [(0, (.string s)), (3, (.string (ByteArray.mk #[]))), (4, (.int .i64 (IntKind.i64.wrap ((↑i : Int) + (1 : Int)))))] [] K)) (rnds Tryd.prog (callOf [(35, (pureS ofG))]) (hints 51) noTab (d + 1) (lp Tryd.f51 5) [(0, (.string s)), (3, (.string (ByteArray.mk #[]))), (4, (.int .i64 (IntKind.i64.wrap ((↑i : Int) + (1 : Int)))))] [] K)) (rnds Tryd.prog (callOf [(35, (pureS ofG))]) (hints 51) noTab (d + 1) (lp Tryd.f51 5) [(0, (.string s)), (3, (.string (ByteArray.mk #[]))), (4, (.int .i64 (IntKind.i64.wrap ((↑i : Int) + (1 : Int)))))] [] K))))) (K (.exit 0) [] [])) (by kernel_rfl) ?_
    rw [hw]
    simp only [Int.toNat_natCast]
    have hone : (s.extract i (i + 1)).size = 1 := by rw [ByteArray.size_extract]; omega
    refine bcase_t (by simp; omega) (need_of (by simp; omega) ⟨⟨by omega, by decide⟩, bcase_of (fun h => ?_) (fun h => ?_)⟩)
    · refine need_of (by simp; omega) (need_of (by simp; omega) (ih _ (by omega) (by rw [ByteArray.size_append]; omega) ?_))
      have e : partFrom s (d + 1) i g = partFrom s d (i + 1) (g ++ s.extract i (i + 1)) := by simp only [partFrom, h, cond_true]
      rw [← e]; exact hK
    · have e : partFrom s (d + 1) i g = bif badGap g then false else partFrom s d (i + 1) ⟨#[]⟩ := by simp only [partFrom, h, cond_false]
      rw [e] at hK
      have good : badGap g = false → rnds Tryd.prog (callOf [(35, pureS ofG)]) (hints 51) noTab (d + 1) (lp Tryd.f51 5) [(0, .string s), (3, .string ⟨#[]⟩), (4, .int .i64 ((i + 1 : Nat) : Int))] [] K := fun hb => by
        refine ih _ (by omega) (Nat.zero_le _) ?_
        simpa only [hb, cond_false] using hK
      have bad : badGap g = true → K .ret [(2, .bool false)] [] := fun hb => by
        simpa only [hb, cond_true, bcase] using hK
      (repeat' first | exact trivial | with_reducible refine need_of (by first | first | assumption | omega | decide | (simp only [Bool.and_true, Bool.and_eq_true, decide_eq_true_eq, ByteArray.size_extract, Int.toNat_natCast, List.getD_eq_getElem?_getD, beq_iff_eq, decide_eq_false_iff_not] at *; omega) | ((repeat' constructor) <;> first | rfl | first | assumption | omega | decide | (simp only [Bool.and_true, Bool.and_eq_true, decide_eq_true_eq, ByteArray.size_extract, Int.toNat_natCast, List.getD_eq_getElem?_getD, beq_iff_eq, decide_eq_false_iff_not] at *; omega))) ?_ | with_reducible refine And.intro (by first | first | assumption | omega | decide | (simp only [Bool.and_true, Bool.and_eq_true, decide_eq_true_eq, ByteArray.size_extract, Int.toNat_natCast, List.getD_eq_getElem?_getD, beq_iff_eq, decide_eq_false_iff_not] at *; omega) | ((repeat' constructor) <;> first | rfl | first | assumption | omega | decide | (simp only [Bool.and_true, Bool.and_eq_true, decide_eq_true_eq, ByteArray.size_extract, Int.toNat_natCast, List.getD_eq_getElem?_getD, beq_iff_eq, decide_eq_false_iff_not] at *; omega))) ?_ | with_reducible refine bcase_of (fun h => ?_) (fun h => ?_)) <;> first | exact good (by simp only [badGap, isS, *, Bool.and_true, Bool.and_false, Bool.true_and, Bool.false_and]) | exact bad (by simp only [badGap, isS, *, Bool.and_true, Bool.and_false, Bool.true_and, Bool.false_and])
theorem partLp_ok : CodeOk Tryd.prog Tryd.f51.ntmps (.loop (lp Tryd.f51 5)) partLp := by
  refine loop_ok (call := callOf [(35, pureS ofG)]) (hint := hints 51) (tb := noTab) hm (callOf_cons of_ok.spec callOf_nil) (by kernel_rfl) (by repeat' first | exact trivial | constructor |  (intro _ h; cases h)) fun fr H K h => ?_
  unfold partLp at h
  split at h
  · obtain ⟨⟨rfl, rfl, hs⟩, hK⟩ := h
    exact ⟨_, part_rounds _ hs _ _ 0 _ (Nat.zero_add _) (Nat.le_refl _) hK⟩
  · exact h.elim
def tab51 : Tab := ⟨fun | 5 => some partLp | _ => none, fun _ => none⟩
def partG : Pure
  | [.string s] => some (s.size < 2 ^ 40, .bool (partS s))
  | _ => none
theorem part_ok : PureOk Tryd.prog 51 partG := by
  refine .of_run (call := callOf [(35, pureS ofG)]) (hint := hints 51) (tb := tab51) hm (callOf_cons of_ok.spec callOf_nil) Tryd.func51 (by kernel_rfl) rfl (by kernel_rfl) (by repeat' first | exact trivial | constructor | (intro _ h; cases h; exact partLp_ok) | (intro _ h; cases h)) fun args c r h => ?_
  unfold partG at h
  split at h
  · rename_i s
    cases h
    refine ⟨rfl, fun hs => ⟨rfl, 1, fun K hK => ?_⟩⟩
    have hp : isS s [] = false → 0 < s.size := fun h => by
      rcases Nat.eq_zero_or_pos s.size with h0 | h0
      · have e : s = ⟨#[]⟩ := ByteArray.size_eq_zero_iff.1 h0
        subst e
        rw [show isS (ByteArray.mk #[]) [] = true from beq_self_eq_true _] at h
        cases h
      · exact h0
    refine to (R := bcase (s.toList == (ByteArray.mk #[]).toList) (K (.bool false) []) (((s.size < (2 ^ 62)) ∧ ((ByteArray.mk #[97, 98, 99, 100, 101, 102, 103, 104, 105, 106, 107, 108, 109, 110, 111, 112, 113, 114, 115, 116, 117, 118, 119, 120, 121, 122, 48, 49, 50, 51, 52, 53, 54, 55, 56, 57, 46, 95, 45]).size < (2 ^ 62))) ∧ (bcase (!(ofFrom s (ByteArray.mk #[97, 98, 99, 100, 101, 102, 103, 104, 105, 106, 107, 108, 109, 110, 111, 112, 113, 114, 115, 116, 117, 118, 119, 120, 121, 122, 48, 49, 50, 51, 52, 53, 54, 55, 56, 57, 46, 95, 45]) 0 s.size)) (K (.bool false) []) (need (decide ((1 : Int) ≤ (↑s.size : Int))) ((((s.extract 0 1).size < (2 ^ 62)) ∧ ((ByteArray.mk #[97, 98, 99, 100, 101, 102, 103, 104, 105, 106, 107, 108, 109, 110, 111, 112, 113, 114, 115, 116, 117, 118, 119, 120, 121, 122, 48, 49, 50, 51, 52, 53, 54, 55, 56, 57]).size < (2 ^ 62))) ∧ (bcase (!(ofFrom (s.extract 0 1) (ByteArray.mk #[97, 98, 99, 100, 101, 102, 103, 104, 105, 106, 107, 108, 109, 110, 111, 112, 113, 114, 115, 116, 117, 118, 119, 120, 121, 122, 48, 49, 50, 51, 52, 53, 54, 55, 56, 57]) 0 (s.extract 0 1).size)) (K (.bool false) []) (need ((decide ((0 : Int) ≤ (IntKind.i64.wrap ((↑s.size : Int) - (1 : Int))))) && ((decide ((IntKind.i64.wrap ((↑s.size : Int) - (1 : Int))) ≤ (↑s.size : Int))) && (decide ((↑s.size : Int) ≤ (↑s.size : Int))))) ((((s.extract (IntKind.i64.wrap ((↑s.size : Int) - (1 : Int))).toNat (↑s.size : Int).toNat).size < (2 ^ 62)) ∧ ((ByteArray.mk #[97, 98, 99, 100, 101, 102, 103, 104, 105, 106, 107, 108, 109, 110, 111, 112, 113, 114, 115, 116, 117, 118, 119, 120, 121, 122, 48, 49, 50, 51, 52, 53, 54, 55, 56, 57]).size < (2 ^ 62))) ∧ (bcase (!(ofFrom (s.extract (IntKind.i64.wrap ((↑s.size : Int) - (1 : Int))).toNat (↑s.size : Int).toNat) (ByteArray.mk #[97, 98, 99, 100, 101, 102, 103, 104, 105, 106, 107, 108, 109, 110, 111, 112, 113, 114, 115, 116, 117, 118, 119, 120, 121, 122, 48, 49, 50, 51, 52, 53, 54, 55, 56, 57]) 0 (s.extract (IntKind.i64.wrap ((↑s.size : Int) - (1 : Int))).toNat (↑s.size : Int).toNat).size)) (K (.bool false) []) ((((0 : Int) = (0 : Int)) ∧ (((ByteArray.mk #[]) = (ByteArray.mk #[])) ∧ (s.size < (2 ^ 40)))) ∧ (bcase (partFrom s s.size 0 (ByteArray.mk #[])) (K (.bool true) []) (K (.bool false) [])))))))))))) (by kernel_rfl) ?_
    refine bcase_of (fun h => ?_) (fun h => ?_)
    · simpa only [isS, partS, *, cond_true, cond_false, Bool.and_true, Bool.and_false, Bool.true_and, Bool.false_and, Bool.or_true, Bool.or_false, Bool.true_or, Bool.false_or] using hK _
    · have h1 := hp h
      have hw : IntKind.i64.wrap ((s.size : Int) - 1) = ((s.size - 1 : Nat) : Int) := by
        rw [show ((s.size : Int) - 1) = ((s.size - 1 : Nat) : Int) by omega]; exact wrap_id (by omega) (by omega)
      rw [hw]
      simp only [Int.toNat_natCast]
      ((repeat' first | exact trivial | with_reducible refine need_of (by first | first | assumption | omega | decide | (simp only [Bool.and_true, Bool.and_eq_true, decide_eq_true_eq, ByteArray.size_extract, Int.toNat_natCast, List.getD_eq_getElem?_getD, beq_iff_eq, decide_eq_false_iff_not] at *; omega) | ((repeat' constructor) <;> first | rfl | first | assumption | omega | decide | (simp only [Bool.and_true, Bool.and_eq_true, decide_eq_true_eq, ByteArray.size_extract, Int.toNat_natCast, List.getD_eq_getElem?_getD, beq_iff_eq, decide_eq_false_iff_not] at *; omega))) ?_ | with_reducible refine And.intro (by first | first | assumption | omega | decide | (simp only [Bool.and_true, Bool.and_eq_true, decide_eq_true_eq, ByteArray.size_extract, Int.toNat_natCast, List.getD_eq_getElem?_getD, beq_iff_eq, decide_eq_false_iff_not] at *; omega) | ((repeat' constructor) <;> first | rfl | first | assumption | omega | decide | (simp only [Bool.and_true, Bool.and_eq_true, decide_eq_true_eq, ByteArray.size_extract, Int.toNat_natCast, List.getD_eq_getElem?_getD, beq_iff_eq, decide_eq_false_iff_not] at *; omega))) ?_ | with_reducible refine bcase_of (fun h => ?_) (fun h => ?_)) <;> (have := hK []; simp only [isS, partS, *, cond_true, cond_false, Bool.and_true, Bool.and_false, Bool.true_and, Bool.false_and, Bool.or_true, Bool.or_false, Bool.true_or, Bool.false_or] at this ⊢; exact this))
  · cases h
def pathAll (l : List ByteArray) : Nat → Nat → Bool
  | 0, _ => true
  | d + 1, i => bif !partS (l.getD i (ByteArray.mk #[])) then false else pathAll l d (i + 1)
def pathLp : LSpec
  | [(3, .slice (some ⟨0, 0, none⟩) n m), (4, .int .i64 i)], H, K => ∃ l : List ByteArray, (i = 0 ∧ n = l.length ∧ m = l.length ∧ l.length < 2 ^ 60 ∧ (∀ i, (l.getD i (ByteArray.mk #[])).size < 2 ^ 40) ∧ H = [.row strC 1 l .own]) ∧ bcase (pathAll l l.length 0) (K (.exit 0) [] [.row strC 1 l .own]) (K .ret [(2, .bool false)] [.row strC 1 l .own])
  | _, _, _ => False
theorem path_rounds (l : List ByteArray) (hl : l.length < 2 ^ 60) (hs : ∀ i, (l.getD i (ByteArray.mk #[])).size < 2 ^ 40) (K : Kont) : ∀ (d i : Nat), i + d = l.length →
    bcase (pathAll l d i) (K (.exit 0) [] [.row strC 1 l .own]) (K .ret [(2, .bool false)] [.row strC 1 l .own]) →
    rnds Tryd.prog (callOf [(51, pureS partG)]) (hints 34) noTab (d + 1) (lp Tryd.f34 3) [(3, .slice (some ⟨0, 0, none⟩) l.length l.length), (4, .int .i64 i)] [.row strC 1 l .own] K
  | 0, i, hi, hK => by
    refine to (R := bcase (decide ((↑i : Int) < (↑l.length : Int))) (need (decide ((↑i : Int) < (↑l.length : Int))) (need ((decide ((0 + (↑i : Int).toNat) < l.length)) && true) (((ByteArray.size (l.getD (0 + (↑i : Int).toNat) (ByteArray.mk #[]))) < (2 ^ 40)) ∧ (bcase (!(partS (l.getD (0 + (↑i : Int).toNat) (ByteArray.mk #[])))) (K .ret [(2, (.bool false))] [(.row strC 1 l .own)]) (rnds Tryd.prog (callOf [(51, (pureS partG))]) (hints 34) noTab (nat_lit 0) (lp Tryd.f34 3) [(3, (.slice (some (Addr.mk 0 0 none)) l.length l.length)), (4, (.int .i64 (IntKind.i64.wrap ((↑i : Int) + (1 : Int)))))] [(.row strC 1 l .own)] K))))) (K (.exit 0) [] [(.row strC 1 l .own)])) (by kernel_rfl) ?_
    exact bcase_f (by simp; omega) hK
  | d + 1, i, hi, hK => by
    have hw : IntKind.i64.wrap ((i : Int) + 1) = ((i + 1 : Nat) : Int) := wrap_id (by omega) (by omega)
    have ih := path_rounds l hl hs K d (i + 1) (by omega)
    have h1 := hs i
    refine to (R := bcase (decide ((↑i : Int) < (↑l.length : Int))) (need (decide ((↑i : Int) < (↑l.length : Int))) (need ((decide ((0 + (↑i : Int).toNat) < l.length)) && true) (((ByteArray.size (l.getD (0 + (↑i : Int).toNat) (ByteArray.mk #[]))) < (2 ^ 40)) ∧ (bcase (!(partS (l.getD (0 + (↑i : Int).toNat) (ByteArray.mk #[])))) (K .ret [(2, (.bool false))] [(.row strC 1 l .own)]) (rnds Tryd.prog (callOf [(51, (pureS partG))]) (hints 34) noTab (d + 1) (lp Tryd.f34 3) [(3, (.slice (some (Addr.mk 0 0 none)) l.length l.length)), (4, (.int .i64 (IntKind.i64.wrap ((↑i : Int) + (1 : Int)))))] [(.row strC 1 l .own)] K))))) (K (.exit 0) [] [(.row strC 1 l .own)])) (by kernel_rfl) ?_
    rw [hw]
    simp only [Int.toNat_natCast, Nat.zero_add]
    refine bcase_t (by simp; omega) (need_of (by simp; omega) (need_of (by simp; omega) ⟨h1, bcase_of (fun h => ?_) (fun h => ?_)⟩))
    · simpa only [pathAll, h, cond_true, bcase] using hK
    · simp only [pathAll, h, cond_false] at hK
      exact ih hK
theorem pathLp_ok : CodeOk Tryd.prog Tryd.f34.ntmps (.loop (lp Tryd.f34 3)) pathLp := by
  refine loop_ok (call := callOf [(51, pureS partG)]) (hint := hints 34) (tb := noTab) hm (callOf_cons part_ok.spec callOf_nil) (by kernel_rfl) (by repeat' first | exact trivial | constructor |  (intro _ h; cases h)) fun fr H K h => ?_
  unfold pathLp at h
  split at h
  · obtain ⟨l, ⟨rfl, rfl, rfl, h1, h2, rfl⟩, hK⟩ := h
    exact ⟨_, path_rounds l h1 h2 _ _ 0 (Nat.zero_add _) hK⟩
  · exact h.elim
def tab34 : Tab := ⟨fun | 3 => some pathLp | _ => none, fun _ => none⟩
def pathS (s : ByteArray) : Bool := pathAll (cutAll s 47) (cutAll s 47).length 0
def pathG : Pure
  | [.string s] => some (s.size < 2 ^ 40, .bool (pathS s))
  | _ => none
theorem path_ok : PureOk Tryd.prog 34 pathG := by
  refine .of_run (call := callOf [(51, pureS partG), (23, memS cutG)]) (hint := hints 34) (tb := tab34) hm (callOf_cons part_ok.spec (callOf_cons cut_ok.spec callOf_nil)) Tryd.func34 (by kernel_rfl) rfl (by kernel_rfl) (by repeat' first | exact trivial | constructor | (intro _ h; cases h; exact pathLp_ok) | (intro _ h; cases h)) fun args c r h => ?_
  unfold pathG at h
  split at h
  · rename_i s
    cases h
    refine ⟨rfl, fun hs => ⟨rfl, 1, fun K hK => ?_⟩⟩
    have hc := cutAll_len s 47
    refine to (R := (s.size < (2 ^ 40)) ∧ (∃ l, ((((0 : Int) = (0 : Int)) ∧ (((cutAll s (47 : Int)).length = l.length) ∧ (((cutAll s (47 : Int)).length = l.length) ∧ ((l.length < (2 ^ 60)) ∧ ((∀ (i : Nat), ((l.getD i (ByteArray.mk #[])).size < (2 ^ 40))) ∧ ((canonH [(3, (.slice (some (Addr.mk 0 0 none)) (cutAll s (47 : Int)).length (cutAll s (47 : Int)).length)), (4, (.int .i64 (0 : Int)))] [(.row strC 1 (cutAll s (47 : Int)) .own)]) = [(.row strC 1 l .own)])))))) ∧ (bcase (pathAll l l.length 0) (K (.bool true) []) (K (.bool false) []))))) (by kernel_rfl) ?_
    refine ⟨hs, _, ⟨rfl, rfl, rfl, by omega, fun i => Nat.lt_of_le_of_lt (cutAll_size s 47 i) hs, rfl⟩, ?_⟩
    refine bcase_of (fun h => ?_) (fun h => ?_)
    · simpa only [pathS, h] using hK _
    · simpa only [pathS, h] using hK _
  · cases h
abbrev allT : ByteArray := ⟨#[97,98,99,100,101,102,103,104,105,106,107,108,109,110,111,112,113,114,115,116,117,118,119,120,121,122,48,49,50,51,52,53,54,55,56,57,65,66,67,68,69,70,71,72,73,74,75,76,77,78,79,80,81,82,83,84,85,86,87,88,89,90,45]⟩
abbrev tenT : ByteArray := ⟨#[48,49,50,51,52,53,54,55,56,57]⟩
def badLabel (x : ByteArray) : Bool := ((x.size : Int) == 0) || (!ofS x allT || ((bt x 0 == 45) || (bt x ((x.size - 1 : Nat) : Int) == 45)))
def labels (l : List ByteArray) : Nat → Nat → Bool
  | 0, _ => true
  | d + 1, i => bif badLabel (l.getD i (ByteArray.mk #[])) then false else labels l d (i + 1)
def domainLp : LSpec
  | [(4, .slice (some ⟨0, 0, none⟩) n m), (5, .int .i64 i)], H, K => ∃ l : List ByteArray, (i = 0 ∧ n = l.length ∧ m = l.length ∧ l.length < 2 ^ 60 ∧ (∀ i, (l.getD i (ByteArray.mk #[])).size < 2 ^ 40) ∧ H = [.row strC 1 l .own]) ∧ bcase (labels l l.length 0) (K (.exit 0) [] [.row strC 1 l .own]) (K .ret [(2, .bool false)] [.row strC 1 l .own])
  | _, _, _ => False
theorem domain_rounds (l : List ByteArray) (hl : l.length < 2 ^ 60) (hs : ∀ i, (l.getD i (ByteArray.mk #[])).size < 2 ^ 40) (K : Kont) : ∀ (d i : Nat), i + d = l.length →
    bcase (labels l d i) (K (.exit 0) [] [.row strC 1 l .own]) (K .ret [(2, .bool false)] [.row strC 1 l .own]) →
    rnds Tryd.prog (callOf [(35, pureS ofG)]) (hints 33) noTab (d + 1) (lp Tryd.f33 6) [(4, .slice (some ⟨0, 0, none⟩) l.length l.length), (5, .int .i64 i)] [.row strC 1 l .own] K
  | 0, i, hi, hK => by
    refine to (R := bcase (decide ((↑i : Int) < (↑l.length : Int))) (need (decide ((↑i : Int) < (↑l.length : Int))) (need ((decide ((0 + (↑i : Int).toNat) < l.length)) && true) (bcase ((↑(ByteArray.size (l.getD (0 + (↑i : Int).toNat) (ByteArray.mk #[]))) : Int) == (0 : Int)) (K .ret [(2, (.bool false))] [(.row strC 1 l .own)]) (need (decide ((↑i : Int) < (↑l.length : Int))) (need ((decide ((0 + (↑i : Int).toNat) < l.length)) && true) ((((ByteArray.size (l.getD (0 + (↑i : Int).toNat) (ByteArray.mk #[]))) < (2 ^ 62)) ∧ ((ByteArray.mk #[97, 98, 99, 100, 101, 102, 103, 104, 105, 106, 107, 108, 109, 110, 111, 112, 113, 114, 115, 116, 117, 118, 119, 120, 121, 122, 48, 49, 50, 51, 52, 53, 54, 55, 56, 57, 65, 66, 67, 68, 69, 70, 71, 72, 73, 74, 75, 76, 77, 78, 79, 80, 81, 82, 83, 84, 85, 86, 87, 88, 89, 90, 45]).size < (2 ^ 62))) ∧ (bcase (!(ofFrom (l.getD (0 + (↑i : Int).toNat) (ByteArray.mk #[])) (ByteArray.mk #[97, 98, 99, 100, 101, 102, 103, 104, 105, 106, 107, 108, 109, 110, 111, 112, 113, 114, 115, 116, 117, 118, 119, 120, 121, 122, 48, 49, 50, 51, 52, 53, 54, 55, 56, 57, 65, 66, 67, 68, 69, 70, 71, 72, 73, 74, 75, 76, 77, 78, 79, 80, 81, 82, 83, 84, 85, 86, 87, 88, 89, 90, 45]) 0 (ByteArray.size (l.getD (0 + (↑i : Int).toNat) (ByteArray.mk #[]))))) (K .ret [(2, (.bool false))] [(.row strC 1 l .own)]) (need (decide ((↑i : Int) < (↑l.length : Int))) (need ((decide ((0 + (↑i : Int).toNat) < l.length)) && true) (need (decide ((0 : Int) < (↑(ByteArray.size (l.getD (0 + (↑i : Int).toNat) (ByteArray.mk #[]))) : Int))) (bcase ((bt (l.getD (0 + (↑i : Int).toNat) (ByteArray.mk #[])) (0 : Int)) == (45 : Int)) (K .ret [(2, (.bool false))] [(.row strC 1 l .own)]) (need (decide ((↑i : Int) < (↑l.length : Int))) (need ((decide ((0 + (↑i : Int).toNat) < l.length)) && true) (need ((decide ((0 : Int) ≤ (IntKind.i64.wrap ((↑(ByteArray.size (l.getD (0 + (↑i : Int).toNat) (ByteArray.mk #[]))) : Int) - (1 : Int))))) && (decide ((IntKind.i64.wrap ((↑(ByteArray.size (l.getD (0 + (↑i : Int).toNat) (ByteArray.mk #[]))) : Int) - (1 : Int))) < (↑(ByteArray.size (l.getD (0 + (↑i : Int).toNat) (ByteArray.mk #[]))) : Int)))) (bcase ((bt (l.getD (0 + (↑i : Int).toNat) (ByteArray.mk #[])) (IntKind.i64.wrap ((↑(ByteArray.size (l.getD (0 + (↑i : Int).toNat) (ByteArray.mk #[]))) : Int) - (1 : Int)))) == (45 : Int)) (K .ret [(2, (.bool false))] [(.row strC 1 l .own)]) (rnds Tryd.prog (callOf [(35, (pureS ofG))]) (hints 33) noTab (nat_lit 0) (lp Tryd.f33 6) [(4, (.slice (some (Addr.mk 0 0 none)) l.length l.length)), (5, (.int .i64 (IntKind.i64.wrap ((↑i : Int) + (1 : Int)))))] [(.row strC 1 l .own)] K)))))))))))))))) (K (.exit 0) [] [(.row strC 1 l .own)])) (by kernel_rfl) ?_
    exact bcase_f (by simp; omega) hK
  | d + 1, i, hi, hK => by
    have hw : IntKind.i64.wrap ((i : Int) + 1) = ((i + 1 : Nat) : Int) := wrap_id (by omega) (by omega)
    have ih := domain_rounds l hl hs K d (i + 1) (by omega)
    have h1 := hs i
    refine to (R := bcase (decide ((↑i : Int) < (↑l.length : Int))) (need (decide ((↑i : Int) < (↑l.length : Int))) (need ((decide ((0 + (↑i : Int).toNat) < l.length)) && true) (bcase ((↑(ByteArray.size (l.getD (0 + (↑i : Int).toNat) (ByteArray.mk #[]))) : Int) == (0 : Int)) (K .ret [(2, (.bool false))] [(.row strC 1 l .own)]) (need (decide ((↑i : Int) < (↑l.length : Int))) (need ((decide ((0 + (↑i : Int).toNat) < l.length)) && true) ((((ByteArray.size (l.getD (0 + (↑i : Int).toNat) (ByteArray.mk #[]))) < (2 ^ 62)) ∧ ((ByteArray.mk #[97, 98, 99, 100, 101, 102, 103, 104, 105, 106, 107, 108, 109, 110, 111, 112, 113, 114, 115, 116, 117, 118, 119, 120, 121, 122, 48, 49, 50, 51, 52, 53, 54, 55, 56, 57, 65, 66, 67, 68, 69, 70, 71, 72, 73, 74, 75, 76, 77, 78, 79, 80, 81, 82, 83, 84, 85, 86, 87, 88, 89, 90, 45]).size < (2 ^ 62))) ∧ (bcase (!(ofFrom (l.getD (0 + (↑i : Int).toNat) (ByteArray.mk #[])) (ByteArray.mk #[97, 98, 99, 100, 101, 102, 103, 104, 105, 106, 107, 108, 109, 110, 111, 112, 113, 114, 115, 116, 117, 118, 119, 120, 121, 122, 48, 49, 50, 51, 52, 53, 54, 55, 56, 57, 65, 66, 67, 68, 69, 70, 71, 72, 73, 74, 75, 76, 77, 78, 79, 80, 81, 82, 83, 84, 85, 86, 87, 88, 89, 90, 45]) 0 (ByteArray.size (l.getD (0 + (↑i : Int).toNat) (ByteArray.mk #[]))))) (K .ret [(2, (.bool false))] [(.row strC 1 l .own)]) (need (decide ((↑i : Int) < (↑l.length : Int))) (need ((decide ((0 + (↑i : Int).toNat) < l.length)) && true) (need (decide ((0 : Int) < (↑(ByteArray.size (l.getD (0 + (↑i : Int).toNat) (ByteArray.mk #[]))) : Int))) (bcase ((bt (l.getD (0 + (↑i : Int).toNat) (ByteArray.mk #[])) (0 : Int)) == (45 : Int)) (K .ret [(2, (.bool false))] [(.row strC 1 l .own)]) (need (decide ((↑i : Int) < (↑l.length : Int))) (need ((decide ((0 + (↑i : Int).toNat) < l.length)) && true) (need ((decide ((0 : Int) ≤ (IntKind.i64.wrap ((↑(ByteArray.size (l.getD (0 + (↑i : Int).toNat) (ByteArray.mk #[]))) : Int) - (1 : Int))))) && (decide ((IntKind.i64.wrap ((↑(ByteArray.size (l.getD (0 + (↑i : Int).toNat) (ByteArray.mk #[]))) : Int) - (1 : Int))) < (↑(ByteArray.size (l.getD (0 + (↑i : Int).toNat) (ByteArray.mk #[]))) : Int)))) (bcase ((bt (l.getD (0 + (↑i : Int).toNat) (ByteArray.mk #[])) (IntKind.i64.wrap ((↑(ByteArray.size (l.getD (0 + (↑i : Int).toNat) (ByteArray.mk #[]))) : Int) - (1 : Int)))) == (45 : Int)) (K .ret [(2, (.bool false))] [(.row strC 1 l .own)]) (rnds Tryd.prog (callOf [(35, (pureS ofG))]) (hints 33) noTab (d + 1) (lp Tryd.f33 6) [(4, (.slice (some (Addr.mk 0 0 none)) l.length l.length)), (5, (.int .i64 (IntKind.i64.wrap ((↑i : Int) + (1 : Int)))))] [(.row strC 1 l .own)] K)))))))))))))))) (K (.exit 0) [] [(.row strC 1 l .own)])) (by kernel_rfl) ?_
    rw [hw]
    simp only [Int.toNat_natCast, Nat.zero_add]
    generalize hx : l.getD i (ByteArray.mk #[]) = x at h1 ⊢
    have e : labels l (d + 1) i = bif badLabel x then false else labels l d (i + 1) := by rw [← hx]; rfl
    rw [e] at hK
    have bad : badLabel x = true → K .ret [(2, .bool false)] [.row strC 1 l .own] := fun hb => by simpa only [hb, cond_true, bcase] using hK
    have good : badLabel x = false → rnds Tryd.prog (callOf [(35, pureS ofG)]) (hints 33) noTab (d + 1) (lp Tryd.f33 6) [(4, .slice (some ⟨0, 0, none⟩) l.length l.length), (5, .int .i64 ((i + 1 : Nat) : Int))] [.row strC 1 l .own] K := fun hb => by
      refine ih ?_
      simpa only [hb, cond_false] using hK
    refine bcase_t (by simp; omega) (need_of (by simp; omega) (need_of (by simp; omega) (bcase_of (fun h => bad (by simp only [badLabel, h, Bool.true_or])) (fun h => ?_))))
    have h0 : 0 < x.size := by
      rcases Nat.eq_zero_or_pos x.size with h0 | h0
      · rw [h0] at h; cases h
      · exact h0
    have hw2 : IntKind.i64.wrap ((x.size : Int) - 1) = ((x.size - 1 : Nat) : Int) := by
      rw [show ((x.size : Int) - 1) = ((x.size - 1 : Nat) : Int) by omega]; exact wrap_id (by omega) (by omega)
    rw [hw2]
    clear hK ih e
    (repeat' first | exact trivial | with_reducible refine need_of (by first | first | assumption | omega | decide | (simp only [Bool.and_true, Bool.and_eq_true, decide_eq_true_eq, ByteArray.size_extract, Int.toNat_natCast, List.getD_eq_getElem?_getD, beq_iff_eq, decide_eq_false_iff_not] at *; omega) | ((repeat' constructor) <;> first | rfl | first | assumption | omega | decide | (simp only [Bool.and_true, Bool.and_eq_true, decide_eq_true_eq, ByteArray.size_extract, Int.toNat_natCast, List.getD_eq_getElem?_getD, beq_iff_eq, decide_eq_false_iff_not] at *; omega))) ?_ | with_reducible refine And.intro (by first | first | assumption | omega | decide | (simp only [Bool.and_true, Bool.and_eq_true, decide_eq_true_eq, ByteArray.size_extract, Int.toNat_natCast, List.getD_eq_getElem?_getD, beq_iff_eq, decide_eq_false_iff_not] at *; omega) | ((repeat' constructor) <;> first | rfl | first | assumption | omega | decide | (simp only [Bool.and_true, Bool.and_eq_true, decide_eq_true_eq, ByteArray.size_extract, Int.toNat_natCast, List.getD_eq_getElem?_getD, beq_iff_eq, decide_eq_false_iff_not] at *; omega))) ?_ | with_reducible refine bcase_of (fun h => ?_) (fun h => ?_)) <;> first | exact good (by simp only [badLabel, *, Bool.or_true, Bool.or_false, Bool.true_or, Bool.false_or]) | exact bad (by simp only [badLabel, *, Bool.or_true, Bool.or_false, Bool.true_or, Bool.false_or])
theorem domainLp_ok : CodeOk Tryd.prog Tryd.f33.ntmps (.loop (lp Tryd.f33 6)) domainLp := by
  refine loop_ok (call := callOf [(35, pureS ofG)]) (hint := hints 33) (tb := noTab) hm (callOf_cons of_ok.spec callOf_nil) (by kernel_rfl) (by repeat' first | exact trivial | constructor |  (intro _ h; cases h)) fun fr H K h => ?_
  unfold domainLp at h
  split at h
  · obtain ⟨l, ⟨rfl, rfl, rfl, h1, h2, rfl⟩, hK⟩ := h
    exact ⟨_, domain_rounds l h1 h2 _ _ 0 (Nat.zero_add _) hK⟩
  · exact h.elim
def tab33 : Tab := ⟨fun | 6 => some domainLp | _ => none, fun _ => none⟩
def domainS (s : ByteArray) : Bool :=
  bif decide (((cutAll s 58).length : Int) > 2) || (((cutAll s 58).length : Int) == 2 && (isS ((cutAll s 58).getD 1 (ByteArray.mk #[])) [] || (decide ((((cutAll s 58).getD 1 (ByteArray.mk #[])).size : Int) > 5) || !ofS ((cutAll s 58).getD 1 (ByteArray.mk #[])) tenT))) then false
  else labels (cutAll ((cutAll s 58).getD 0 (ByteArray.mk #[])) 46) (cutAll ((cutAll s 58).getD 0 (ByteArray.mk #[])) 46).length 0
def domainG : Pure
  | [.string s] => some (s.size < 2 ^ 40, .bool (domainS s))
  | _ => none
theorem domain_ok : PureOk Tryd.prog 33 domainG := by
  refine .of_run (call := callOf [(35, pureS ofG), (23, memS cutG)]) (hint := hints 33) (tb := tab33) hm (callOf_cons of_ok.spec (callOf_cons cut_ok.spec callOf_nil)) Tryd.func33 (by kernel_rfl) rfl (by kernel_rfl) (by repeat' first | exact trivial | constructor | (intro _ h; cases h; exact domainLp_ok) | (intro _ h; cases h)) fun args c r h => ?_
  unfold domainG at h
  split at h
  · rename_i s
    cases h
    refine ⟨rfl, fun hs => ⟨rfl, 1, fun K hK => ?_⟩⟩
    have hc := cutAll_len s 58
    have h0 := cutAll_size s 58 0
    have h1 := cutAll_size s 58 1
    have hc2 := cutAll_len ((cutAll s 58).getD 0 (ByteArray.mk #[])) 46
    have h2 := cutAll_size ((cutAll s 58).getD 0 (ByteArray.mk #[])) 46
    have fine : ∀ H, (decide (((cutAll s 58).length : Int) > 2) || (((cutAll s 58).length : Int) == 2 && (isS ((cutAll s 58).getD 1 (ByteArray.mk #[])) [] || (decide ((((cutAll s 58).getD 1 (ByteArray.mk #[])).size : Int) > 5) || !ofS ((cutAll s 58).getD 1 (ByteArray.mk #[])) tenT)))) = false → (K (.bool (labels (cutAll ((cutAll s 58).getD 0 (ByteArray.mk #[])) 46) (cutAll ((cutAll s 58).getD 0 (ByteArray.mk #[])) 46).length 0)) H) := fun H hh => by
      have := hK H
      simpa only [domainS, hh, cond_false] using this
    have bad : ∀ H, (decide (((cutAll s 58).length : Int) > 2) || (((cutAll s 58).length : Int) == 2 && (isS ((cutAll s 58).getD 1 (ByteArray.mk #[])) [] || (decide ((((cutAll s 58).getD 1 (ByteArray.mk #[])).size : Int) > 5) || !ofS ((cutAll s 58).getD 1 (ByteArray.mk #[])) tenT)))) = true → (K (.bool false) H) := fun H hh => by
      have := hK H
      simpa only [domainS, hh, cond_true] using this
    clear hK
    have hk : ∀ i, ((cutAll ((cutAll s 58).getD 0 (ByteArray.mk #[])) 46).getD i (ByteArray.mk #[])).size < 2 ^ 40 := fun i => by have := h2 i; omega
    refine to (R := (s.size < (2 ^ 40)) ∧ (bcase (decide ((↑(cutAll s (58 : Int)).length : Int) > (2 : Int))) (K (.bool false) []) (bcase ((↑(cutAll s (58 : Int)).length : Int) == (2 : Int)) (need (decide ((1 : Int) < (↑(cutAll s (58 : Int)).length : Int))) (need ((decide (1 < (cutAll s (58 : Int)).length)) && true) (bcase ((ByteArray.toList ((cutAll s (58 : Int)).getD 1 (ByteArray.mk #[]))) == (ByteArray.mk #[]).toList) (K (.bool false) []) (need (decide ((1 : Int) < (↑(cutAll s (58 : Int)).length : Int))) (need ((decide (1 < (cutAll s (58 : Int)).length)) && true) (bcase (decide ((↑(ByteArray.size ((cutAll s (58 : Int)).getD 1 (ByteArray.mk #[]))) : Int) > (5 : Int))) (K (.bool false) []) (need (decide ((1 : Int) < (↑(cutAll s (58 : Int)).length : Int))) (need ((decide (1 < (cutAll s (58 : Int)).length)) && true) ((((ByteArray.size ((cutAll s (58 : Int)).getD 1 (ByteArray.mk #[]))) < (2 ^ 62)) ∧ ((ByteArray.mk #[48, 49, 50, 51, 52, 53, 54, 55, 56, 57]).size < (2 ^ 62))) ∧ (bcase (!(ofFrom ((cutAll s (58 : Int)).getD 1 (ByteArray.mk #[])) (ByteArray.mk #[48, 49, 50, 51, 52, 53, 54, 55, 56, 57]) 0 (ByteArray.size ((cutAll s (58 : Int)).getD 1 (ByteArray.mk #[]))))) (K (.bool false) []) (need (decide ((0 : Int) < (↑(cutAll s (58 : Int)).length : Int))) (need ((decide (0 < (cutAll s (58 : Int)).length)) && true) (((ByteArray.size ((cutAll s (58 : Int)).getD 0 (ByteArray.mk #[]))) < (2 ^ 40)) ∧ (∃ l, ((((0 : Int) = (0 : Int)) ∧ (((cutAll ((cutAll s (58 : Int)).getD 0 (ByteArray.mk #[])) (46 : Int)).length = l.length) ∧ (((cutAll ((cutAll s (58 : Int)).getD 0 (ByteArray.mk #[])) (46 : Int)).length = l.length) ∧ ((l.length < (2 ^ 60)) ∧ ((∀ (i : Nat), ((l.getD i (ByteArray.mk #[])).size < (2 ^ 40))) ∧ ((canonH [(4, (.slice (some (Addr.mk 1 0 none)) (cutAll ((cutAll s (58 : Int)).getD 0 (ByteArray.mk #[])) (46 : Int)).length (cutAll ((cutAll s (58 : Int)).getD 0 (ByteArray.mk #[])) (46 : Int)).length)), (5, (.int .i64 (0 : Int)))] [(.row strC 1 (cutAll s (58 : Int)) .own), (.row strC 1 (cutAll ((cutAll s (58 : Int)).getD 0 (ByteArray.mk #[])) (46 : Int)) .own)]) = [(.row strC 1 l .own)])))))) ∧ (bcase (labels l l.length 0) (K (.bool true) []) (K (.bool false) []))))))))))))))))) (need (decide ((0 : Int) < (↑(cutAll s (58 : Int)).length : Int))) (need ((decide (0 < (cutAll s (58 : Int)).length)) && true) (((ByteArray.size ((cutAll s (58 : Int)).getD 0 (ByteArray.mk #[]))) < (2 ^ 40)) ∧ (∃ l, ((((0 : Int) = (0 : Int)) ∧ (((cutAll ((cutAll s (58 : Int)).getD 0 (ByteArray.mk #[])) (46 : Int)).length = l.length) ∧ (((cutAll ((cutAll s (58 : Int)).getD 0 (ByteArray.mk #[])) (46 : Int)).length = l.length) ∧ ((l.length < (2 ^ 60)) ∧ ((∀ (i : Nat), ((l.getD i (ByteArray.mk #[])).size < (2 ^ 40))) ∧ ((canonH [(4, (.slice (some (Addr.mk 1 0 none)) (cutAll ((cutAll s (58 : Int)).getD 0 (ByteArray.mk #[])) (46 : Int)).length (cutAll ((cutAll s (58 : Int)).getD 0 (ByteArray.mk #[])) (46 : Int)).length)), (5, (.int .i64 (0 : Int)))] [(.row strC 1 (cutAll s (58 : Int)) .own), (.row strC 1 (cutAll ((cutAll s (58 : Int)).getD 0 (ByteArray.mk #[])) (46 : Int)) .own)]) = [(.row strC 1 l .own)])))))) ∧ (bcase (labels l l.length 0) (K (.bool true) []) (K (.bool false) [])))))))))) (by kernel_rfl) ?_
    (repeat' first | exact trivial | with_reducible refine need_of (by first | first | assumption | omega | decide | (simp only [Bool.and_true, Bool.and_eq_true, decide_eq_true_eq, ByteArray.size_extract, Int.toNat_natCast, List.getD_eq_getElem?_getD, beq_iff_eq, decide_eq_false_iff_not] at *; omega) | ((repeat' constructor) <;> first | rfl | first | assumption | omega | decide | (simp only [Bool.and_true, Bool.and_eq_true, decide_eq_true_eq, ByteArray.size_extract, Int.toNat_natCast, List.getD_eq_getElem?_getD, beq_iff_eq, decide_eq_false_iff_not] at *; omega))) ?_ | with_reducible refine And.intro (by first | first | assumption | omega | decide | (simp only [Bool.and_true, Bool.and_eq_true, decide_eq_true_eq, ByteArray.size_extract, Int.toNat_natCast, List.getD_eq_getElem?_getD, beq_iff_eq, decide_eq_false_iff_not] at *; omega) | ((repeat' constructor) <;> first | rfl | first | assumption | omega | decide | (simp only [Bool.and_true, Bool.and_eq_true, decide_eq_true_eq, ByteArray.size_extract, Int.toNat_natCast, List.getD_eq_getElem?_getD, beq_iff_eq, decide_eq_false_iff_not] at *; omega))) ?_ | with_reducible refine bcase_of (fun h => ?_) (fun h => ?_)) <;> first | exact bad [] (by simp only [isS, tenT, *, cond_true, cond_false, Bool.and_true, Bool.and_false, Bool.true_and, Bool.false_and, Bool.or_true, Bool.or_false, Bool.true_or, Bool.false_or]) | exact ⟨_, ⟨rfl, rfl, rfl, by omega, hk, rfl⟩, bcase_bool (fine [] (by simp only [isS, tenT, *, cond_true, cond_false, Bool.and_true, Bool.and_false, Bool.true_and, Bool.false_and, Bool.or_true, Bool.or_false, Bool.true_or, Bool.false_or]))⟩
  · cases h
end Go.Proofs.YtofcjkbgieenlaaDoor.PM

namespace Go.Proofs.YtofcjkbgieenlaaDoor.PM
open Go Go.Proofs
set_option maxRecDepth 100000
set_option linter.unusedVariables false

theorem wrap_u8 {x : Int} (h0 : 0 ≤ x) (h1 : x < 256) : IntKind.u8.wrap x = x := by
  show x % 256 = x
  omega
abbrev hexT : ByteArray := ⟨#[48,49,50,51,52,53,54,55,56,57,97,98,99,100,101,102]⟩
def hexS (c : Int) : ByteArray := hexT.extract c.toNat (c + 1).toNat
theorem hexS_size {c : Int} (h0 : 0 ≤ c) (h1 : c < 16) : (hexS c).size = 1 := by
  unfold hexS
  rw [ByteArray.size_extract]
  show min (c + 1).toNat 16 - c.toNat = 1
  omega
def hexG : Pure
  | [.int .u8 c] => some (0 ≤ c ∧ c < 16, .string (hexS c))
  | _ => none
theorem hex_ok : PureOk Tryd.prog 57 hexG := by
  refine .of_run (call := callOf []) (hint := hints 57) (tb := noTab) hm (callOf_nil) Tryd.func57 (by kernel_rfl) rfl (by kernel_rfl) (by repeat' first | exact trivial | constructor |  (intro _ h; cases h)) fun args c r h => ?_
  unfold hexG at h
  split at h
  · rename_i c
    cases h
    refine ⟨rfl, fun hs => ⟨rfl, 1, fun K hK => ?_⟩⟩
    have hw : IntKind.u8.wrap (c + 1) = c + 1 := wrap_u8 (by omega) (by omega)
    refine to (R := need ((decide ((0 : Int) ≤ c)) && ((decide (c ≤ (IntKind.u8.wrap (c + (1 : Int))))) && (decide ((IntKind.u8.wrap (c + (1 : Int))) ≤ (↑16 : Int))))) (K (.string ((ByteArray.mk #[48, 49, 50, 51, 52, 53, 54, 55, 56, 57, 97, 98, 99, 100, 101, 102]).extract c.toNat (IntKind.u8.wrap (c + (1 : Int))).toNat)) [])) (by kernel_rfl) ?_
    rw [hw]
    exact need_of (by simp; omega) (hK _)
  · cases h
/-- The value of a digit, from one on. -/
def valAt (c : Int) : Nat → Int → Option Int
  | 0, _ => none
  | d + 1, i => bif bt (hexS i) 0 == c then some i else valAt c d (i + 1)
def valS (c : Int) : Int := (valAt c 16 0).getD 0
def valueLp : LSpec
  | [(0, .int .u8 c), (3, .int .u8 i)], [], K => i = 0 ∧ bcase (valAt c 16 0).isSome (K .ret [(2, .int .u8 ((valAt c 16 0).getD 0))] []) (K (.exit 0) [] [])
  | _, _, _ => False
theorem value_rounds (c : Int) (K : Kont) : ∀ (d : Nat) (i : Int), 0 ≤ i → i + d = 16 →
    bcase (valAt c d i).isSome (K .ret [(2, .int .u8 ((valAt c d i).getD 0))] []) (K (.exit 0) [] []) →
    rnds Tryd.prog (callOf [(57, pureS hexG)]) (hints 40) noTab (d + 1) (lp Tryd.f40 2) [(0, .int .u8 c), (3, .int .u8 i)] [] K
  | 0, i, h0, hi, hK => by
    refine to (R := bcase (decide (i < (16 : Int))) ((((0 : Int) ≤ i) ∧ (i < (16 : Int))) ∧ (need (decide ((0 : Int) < (↑(hexS i).size : Int))) (bcase ((bt (hexS i) (0 : Int)) == c) (K .ret [(2, (.int .u8 i))] []) (rnds Tryd.prog (callOf [(57, (pureS hexG))]) (hints 40) noTab (nat_lit 0) (lp Tryd.f40 2) [(0, (.int .u8 c)), (3, (.int .u8 (IntKind.u8.wrap (i + (1 : Int)))))] [] K)))) (K (.exit 0) [] [])) (by kernel_rfl) ?_
    exact bcase_f (by simp; omega) hK
  | d + 1, i, h0, hi, hK => by
    have hw : IntKind.u8.wrap (i + 1) = i + 1 := wrap_u8 (by omega) (by omega)
    have h1 := hexS_size h0 (by omega : i < 16)
    refine to (R := bcase (decide (i < (16 : Int))) ((((0 : Int) ≤ i) ∧ (i < (16 : Int))) ∧ (need (decide ((0 : Int) < (↑(hexS i).size : Int))) (bcase ((bt (hexS i) (0 : Int)) == c) (K .ret [(2, (.int .u8 i))] []) (rnds Tryd.prog (callOf [(57, (pureS hexG))]) (hints 40) noTab (d + 1) (lp Tryd.f40 2) [(0, (.int .u8 c)), (3, (.int .u8 (IntKind.u8.wrap (i + (1 : Int)))))] [] K)))) (K (.exit 0) [] [])) (by kernel_rfl) ?_
    rw [hw, h1]
    refine bcase_t (by simp; omega) ⟨⟨h0, by omega⟩, need_of rfl (bcase_of (fun h => ?_) (fun h => ?_))⟩
    · simpa only [valAt, h, cond_true, bcase, Option.isSome_some, Option.getD_some] using hK
    · refine value_rounds c K d (i + 1) (by omega) (by omega) ?_
      simpa only [valAt, h, cond_false] using hK
theorem valueLp_ok : CodeOk Tryd.prog Tryd.f40.ntmps (.loop (lp Tryd.f40 2)) valueLp := by
  refine loop_ok (call := callOf [(57, pureS hexG)]) (hint := hints 40) (tb := noTab) hm (callOf_cons hex_ok.spec callOf_nil) (by kernel_rfl) (by repeat' first | exact trivial | constructor |  (intro _ h; cases h)) fun fr H K h => ?_
  unfold valueLp at h
  split at h
  · obtain ⟨rfl, hK⟩ := h
    exact ⟨_, value_rounds _ _ 16 0 (by omega) (by omega) hK⟩
  · exact h.elim
def tab40 : Tab := ⟨fun | 2 => some valueLp | _ => none, fun _ => none⟩
def valueG : Pure
  | [.int .u8 c] => some (True, .int .u8 (valS c))
  | _ => none
theorem value_ok : PureOk Tryd.prog 40 valueG := by
  refine .of_run (call := callOf [(57, pureS hexG)]) (hint := hints 40) (tb := tab40) hm (callOf_cons hex_ok.spec callOf_nil) Tryd.func40 (by kernel_rfl) rfl (by kernel_rfl) (by repeat' first | exact trivial | constructor | (intro _ h; cases h; exact valueLp_ok) | (intro _ h; cases h)) fun args c r h => ?_
  unfold valueG at h
  split at h
  · rename_i c
    cases h
    refine ⟨rfl, fun hs => ⟨rfl, 1, fun K hK => ?_⟩⟩
    refine to (R := ((0 : Int) = (0 : Int)) ∧ (bcase (valAt c 16 (0 : Int)).isSome (K (.int .u8 ((valAt c 16 (0 : Int)).getD (0 : Int))) []) (K (.int .u8 (0 : Int)) []))) (by kernel_rfl) ?_
    refine ⟨rfl, bcase_of (fun h => hK _) (fun h => ?_)⟩
    have : valS c = 0 := by
      unfold valS
      cases hv : valAt c 16 0 with
      | none => rfl
      | some v => rw [hv] at h; cases h
    rw [this] at hK
    exact hK _
  · cases h
/-- Digests: so many numbers. -/
def isDig (l : List Value) : Bool := allI .u8 l && Nat.beq l.length 32
def bytesL (x : List Int) : Prop := ∀ i, 0 ≤ x.getD i 0 ∧ x.getD i 0 < 256
def dig (b : Nat → Int) : List Value := [.int .u8 (b 0), .int .u8 (b 1), .int .u8 (b 2), .int .u8 (b 3), .int .u8 (b 4), .int .u8 (b 5), .int .u8 (b 6), .int .u8 (b 7), .int .u8 (b 8), .int .u8 (b 9), .int .u8 (b 10), .int .u8 (b 11), .int .u8 (b 12), .int .u8 (b 13), .int .u8 (b 14), .int .u8 (b 15), .int .u8 (b 16), .int .u8 (b 17), .int .u8 (b 18), .int .u8 (b 19), .int .u8 (b 20), .int .u8 (b 21), .int .u8 (b 22), .int .u8 (b 23), .int .u8 (b 24), .int .u8 (b 25), .int .u8 (b 26), .int .u8 (b 27), .int .u8 (b 28), .int .u8 (b 29), .int .u8 (b 30), .int .u8 (b 31)]
theorem dig_of {l : List Value} (h : isDig l = true) : l = dig fun i => (decI l).getD i 0 := by
  simp only [isDig, Bool.and_eq_true] at h
  obtain ⟨h1, h2⟩ := h
  have h2 := Nat.eq_of_beq_eq_true h2
  have h3 := enc_decI h1
  have h4 : (decI l).length = 32 := by have := congrArg List.length h3; rw [List.length_map] at this; omega
  generalize decI l = x at h3 h4
  rw [← h3]
  match x, h4 with
  | [a0, a1, a2, a3, a4, a5, a6, a7, a8, a9, a10, a11, a12, a13, a14, a15, a16, a17, a18, a19, a20, a21, a22, a23, a24, a25, a26, a27, a28, a29, a30, a31], _ => rfl
/-- A digest's text, from a place on. -/
def tellFrom (x : List Int) : Nat → Nat → ByteArray → ByteArray
  | 0, _, s => s
  | d + 1, i, s => tellFrom x d (i + 1) ((s ++ hexS ((x.getD i 0).tdiv 16)) ++ hexS ((x.getD i 0).tmod 16))
def tellLp : LSpec
  | [(1, .pointer (some ⟨0, 0, some 0⟩)), (3, .string s), (4, .int .i64 i)], H, K => ∃ x : List Int, (i = 0 ∧ s.size = 7 ∧ bytesL x ∧ H = [.row (arrC .u8) 32 [x] .own]) ∧ K (.exit 0) [(3, .string (tellFrom x 32 0 s))] [.row (arrC .u8) 32 [x] .own]
  | _, _, _ => False
theorem plainL_int {k : IntKind} : ∀ {l : List Value}, allI k l = true → plainL l = true
  | [], _ => rfl
  | v :: l, h => by
    cases v <;> simp only [allI, Bool.and_eq_true] at h <;> first | (cases h; done) | skip
    simp only [plainL, plainV, plainL_int h.2, Bool.and_true]
theorem tell_rounds (x : List Int) (hx : bytesL x) (K : Kont) : ∀ (d i : Nat) (s : ByteArray), i + d = 32 → s.size = 7 + 2 * i →
    K (.exit 0) [(3, .string (tellFrom x d i s))] [.row (arrC .u8) 32 [x] .own] →
    rnds Tryd.prog (callOf [(57, pureS hexG)]) (hints 41) noTab (d + 1) (lp Tryd.f41 3) [(1, .pointer (some ⟨0, 0, some 0⟩)), (3, .string s), (4, .int .i64 i)] [.row (arrC .u8) 32 [x] .own] K
  | 0, i, s, hi, hs, hK => by
    refine to (R := bcase (decide ((↑i : Int) < (32 : Int))) (need ((decide ((↑i : Int) < (↑32 : Int))) && true) (need ((((↑i : Int).toNat + 1).ble 32) && true) (need ((decide ((↑i : Int) < (↑32 : Int))) && true) (need ((((↑i : Int).toNat + 1).ble 32) && true) ((((0 : Int) ≤ (IntKind.u8.wrap ((x.getD (↑i : Int).toNat (0 : Int)).tdiv (16 : Int)))) ∧ ((IntKind.u8.wrap ((x.getD (↑i : Int).toNat (0 : Int)).tdiv (16 : Int))) < (16 : Int))) ∧ (need ((decide ((s.size + (hexS (IntKind.u8.wrap ((x.getD (↑i : Int).toNat (0 : Int)).tdiv (16 : Int)))).size) < 9223372036854775808)) && true) ((((0 : Int) ≤ ((x.getD (↑i : Int).toNat (0 : Int)).tmod (16 : Int))) ∧ (((x.getD (↑i : Int).toNat (0 : Int)).tmod (16 : Int)) < (16 : Int))) ∧ (need ((decide (((s ++ (hexS (IntKind.u8.wrap ((x.getD (↑i : Int).toNat (0 : Int)).tdiv (16 : Int))))).size + (hexS ((x.getD (↑i : Int).toNat (0 : Int)).tmod (16 : Int))).size) < 9223372036854775808)) && true) (rnds Tryd.prog (callOf [(57, (pureS hexG))]) (hints 41) noTab (nat_lit 0) (lp Tryd.f41 3) [(1, (.pointer (some (Addr.mk 0 0 (some 0))))), (3, (.string ((s ++ (hexS (IntKind.u8.wrap ((x.getD (↑i : Int).toNat (0 : Int)).tdiv (16 : Int))))) ++ (hexS ((x.getD (↑i : Int).toNat (0 : Int)).tmod (16 : Int)))))), (4, (.int .i64 (IntKind.i64.wrap ((↑i : Int) + (1 : Int)))))] [(.row (arrC .u8) 32 [x] .own)] K))))))))) (K (.exit 0) [(3, (.string s))] [(.row (arrC .u8) 32 [x] .own)])) (by kernel_rfl) ?_
    exact bcase_f (by simp; omega) hK
  | d + 1, i, s, hi, hs, hK => by
    have hw : IntKind.i64.wrap ((i : Int) + 1) = ((i + 1 : Nat) : Int) := wrap_id (by omega) (by omega)
    have hb := hx i
    have ih := tell_rounds x hx K d (i + 1) ((s ++ hexS ((x.getD i 0).tdiv 16)) ++ hexS ((x.getD i 0).tmod 16)) (by omega)
    have hq : (x.getD i 0).tdiv 16 = x.getD i 0 / 16 := Int.tdiv_eq_ediv_of_nonneg hb.1
    have hr : (x.getD i 0).tmod 16 = x.getD i 0 % 16 := Int.tmod_eq_emod_of_nonneg hb.1
    have hw2 : IntKind.u8.wrap ((x.getD i 0).tdiv 16) = (x.getD i 0).tdiv 16 := wrap_u8 (by omega) (by omega)
    have h1 := hexS_size (c := (x.getD i 0).tdiv 16) (by omega) (by omega)
    have h2 := hexS_size (c := (x.getD i 0).tmod 16) (by omega) (by omega)
    refine to (R := bcase (decide ((↑i : Int) < (32 : Int))) (need ((decide ((↑i : Int) < (↑32 : Int))) && true) (need ((((↑i : Int).toNat + 1).ble 32) && true) (need ((decide ((↑i : Int) < (↑32 : Int))) && true) (need ((((↑i : Int).toNat + 1).ble 32) && true) ((((0 : Int) ≤ (IntKind.u8.wrap ((x.getD (↑i : Int).toNat (0 : Int)).tdiv (16 : Int)))) ∧ ((IntKind.u8.wrap ((x.getD (↑i : Int).toNat (0 : Int)).tdiv (16 : Int))) < (16 : Int))) ∧ (need ((decide ((s.size + (hexS (IntKind.u8.wrap ((x.getD (↑i : Int).toNat (0 : Int)).tdiv (16 : Int)))).size) < 9223372036854775808)) && true) ((((0 : Int) ≤ ((x.getD (↑i : Int).toNat (0 : Int)).tmod (16 : Int))) ∧ (((x.getD (↑i : Int).toNat (0 : Int)).tmod (16 : Int)) < (16 : Int))) ∧ (need ((decide (((s ++ (hexS (IntKind.u8.wrap ((x.getD (↑i : Int).toNat (0 : Int)).tdiv (16 : Int))))).size + (hexS ((x.getD (↑i : Int).toNat (0 : Int)).tmod (16 : Int))).size) < 9223372036854775808)) && true) (rnds Tryd.prog (callOf [(57, (pureS hexG))]) (hints 41) noTab (d + 1) (lp Tryd.f41 3) [(1, (.pointer (some (Addr.mk 0 0 (some 0))))), (3, (.string ((s ++ (hexS (IntKind.u8.wrap ((x.getD (↑i : Int).toNat (0 : Int)).tdiv (16 : Int))))) ++ (hexS ((x.getD (↑i : Int).toNat (0 : Int)).tmod (16 : Int)))))), (4, (.int .i64 (IntKind.i64.wrap ((↑i : Int) + (1 : Int)))))] [(.row (arrC .u8) 32 [x] .own)] K))))))))) (K (.exit 0) [(3, (.string s))] [(.row (arrC .u8) 32 [x] .own)])) (by kernel_rfl) ?_
    simp only [hw, Int.toNat_natCast, hw2, ByteArray.size_append, h1, h2]
    refine bcase_t (by simp; omega) (need_of (by simp; omega) (need_of (by simp only [Nat.ble_eq, Bool.and_true]; omega) (need_of (by simp; omega) (need_of (by simp only [Nat.ble_eq, Bool.and_true]; omega)
      ⟨⟨by omega, by omega⟩, need_of (by simp; omega) ⟨⟨by omega, by omega⟩, need_of (by simp; omega) (ih ?_ hK)⟩⟩))))
    rw [ByteArray.size_append, ByteArray.size_append, h1, h2]
    omega
theorem tellLp_ok : CodeOk Tryd.prog Tryd.f41.ntmps (.loop (lp Tryd.f41 3)) tellLp := by
  refine loop_ok (call := callOf [(57, pureS hexG)]) (hint := hints 41) (tb := noTab) hm (callOf_cons hex_ok.spec callOf_nil) (by kernel_rfl) (by repeat' first | exact trivial | constructor |  (intro _ h; cases h)) fun fr H K h => ?_
  unfold tellLp at h
  split at h
  · obtain ⟨x, ⟨rfl, h1, h2, rfl⟩, hK⟩ := h
    exact ⟨_, tell_rounds x h2 _ 32 0 _ (by omega) h1 hK⟩
  · exact h.elim
def tab41 : Tab := ⟨fun | 3 => some tellLp | _ => none, fun _ => none⟩
abbrev headT : ByteArray := ⟨#[115, 104, 97, 50, 53, 54, 58]⟩
def tellS (x : List Int) : ByteArray := tellFrom x 32 0 headT
def tellG : Pure
  | [.agg ⟨l⟩] => bif isDig l then some (bytesL (decI l), .string (tellS (decI l))) else none
  | _ => none
theorem tell_ok : PureOk Tryd.prog 41 tellG := by
  refine .of_run (call := callOf [(57, pureS hexG)]) (hint := hints 41) (tb := tab41) hm (callOf_cons hex_ok.spec callOf_nil) Tryd.func41 (by kernel_rfl) rfl (by kernel_rfl) (by repeat' first | exact trivial | constructor | (intro _ h; cases h; exact tellLp_ok) | (intro _ h; cases h)) fun args c r h => ?_
  unfold tellG at h
  split at h
  · rename_i l
    cases hd : isDig l with
    | false => rw [hd] at h; cases h
    | true =>
    rw [hd] at h
    cases h
    refine ⟨?_, fun hs => ⟨rfl, 1, fun K hK => ?_⟩⟩
    · simp only [isDig, Bool.and_eq_true] at hd
      show (plainL l && true) = true
      rw [plainL_int hd.1]
      rfl
    revert hs hK
    rw [dig_of hd]
    generalize (fun i => (decI l).getD i 0) = b
    intro hs hK
    refine to (R := ∃ x, ((((0 : Int) = (0 : Int)) ∧ ((7 = 7) ∧ ((bytesL x) ∧ ((canonH [(1, (.pointer (some (Addr.mk 0 0 (some 0))))), (3, (.string (ByteArray.mk #[115, 104, 97, 50, 53, 54, 58]))), (4, (.int .i64 (0 : Int)))] [(.row (arrC .u8) 32 [[(b 0), (b 1), (b 2), (b 3), (b 4), (b 5), (b 6), (b 7), (b 8), (b 9), (b 10), (b 11), (b 12), (b 13), (b 14), (b 15), (b 16), (b 17), (b 18), (b 19), (b 20), (b 21), (b 22), (b 23), (b 24), (b 25), (b 26), (b 27), (b 28), (b 29), (b 30), (b 31)]] .own)]) = [(.row (arrC .u8) 32 [x] .own)])))) ∧ (K (.string (tellFrom x 32 0 (ByteArray.mk #[115, 104, 97, 50, 53, 54, 58]))) []))) (by kernel_rfl) ?_
    exact ⟨decI (dig b), ⟨rfl, rfl, hs, rfl⟩, hK _⟩
  · cases h
end Go.Proofs.YtofcjkbgieenlaaDoor.PM

namespace Go.Proofs.YtofcjkbgieenlaaDoor.PM
open Go Go.Proofs
set_option maxRecDepth 100000
set_option linter.unusedVariables false

def zerosL : List Int := [0, 0, 0, 0, 0, 0, 0, 0, 0, 0, 0, 0, 0, 0, 0, 0, 0, 0, 0, 0, 0, 0, 0, 0, 0, 0, 0, 0, 0, 0, 0, 0]
theorem valAt_lt (c : Int) : ∀ (d : Nat) (i v : Int), 0 ≤ i → i + d = 16 → valAt c d i = some v → 0 ≤ v ∧ v < 16
  | 0, i, v, _, _, h => by cases h
  | d + 1, i, v, h0, hi, h => by
    unfold valAt at h
    cases hb : (bt (hexS i) 0 == c) with
    | true => rw [hb] at h; cases h; omega
    | false => rw [hb] at h; exact valAt_lt c d (i + 1) v (by omega) (by omega) h
theorem valS_lt (c : Int) : 0 ≤ valS c ∧ valS c < 16 := by
  unfold valS
  cases h : valAt c 16 0 with
  | none => simp
  | some v => exact valAt_lt c 16 0 v (by omega) (by omega) h
/-- What a text's digits say, from one on. -/
def readFrom (s : ByteArray) : Nat → Nat → List Int → List Int
  | 0, _, x => x
  | d + 1, i, x => bif decide (7 + 2 * i + 1 < s.size) then readFrom s d (i + 1) (x.set i (16 * valS (bt s ((7 + 2 * i : Nat) : Int)) + valS (bt s ((8 + 2 * i : Nat) : Int)))) else x
@[irreducible] def readS (s : ByteArray) : List Int := readFrom s 32 0 zerosL
theorem set_bytes {x : List Int} (h : bytesL x) {i : Nat} {v : Int} (h0 : 0 ≤ v) (h1 : v < 256) : bytesL (x.set i v) := fun j => by
  have := h j
  rw [List.getD_eq_getElem?_getD] at this ⊢
  rw [List.getElem?_set]
  split
  · split
    · exact ⟨h0, h1⟩
    · simp
  · exact this
theorem readFrom_bytes (s : ByteArray) : ∀ (d i : Nat) (x : List Int), bytesL x → x.length = 32 → bytesL (readFrom s d i x) ∧ (readFrom s d i x).length = 32
  | 0, i, x, h, hl => ⟨h, hl⟩
  | d + 1, i, x, h, hl => by
    unfold readFrom
    cases decide (7 + 2 * i + 1 < s.size) with
    | false => exact ⟨h, hl⟩
    | true =>
      have h1 := valS_lt (bt s ((7 + 2 * i : Nat) : Int))
      have h2 := valS_lt (bt s ((8 + 2 * i : Nat) : Int))
      exact readFrom_bytes s d (i + 1) _ (set_bytes h (by omega) (by omega)) (by rw [List.length_set, hl])
theorem zeros_bytes : bytesL zerosL := fun i => by
  rw [List.getD_eq_getElem?_getD]
  cases h : zerosL[i]? with
  | none => simp
  | some v =>
    have := List.mem_of_getElem? h
    simp [zerosL] at this
    subst this
    simp
theorem readS_bytes (s : ByteArray) : bytesL (readS s) ∧ (readS s).length = 32 := by unfold readS; exact readFrom_bytes s 32 0 zerosL zeros_bytes rfl
def rparseLp : LSpec
  | [(0, .string s), (2, .pointer (some ⟨0, 0, some 0⟩)), (4, .pointer (some ⟨1, 0, some 0⟩)), (5, .int .i64 i)], H, K => (i = 0 ∧ s.size < 2 ^ 40 ∧ H = [.row (arrC .u8) 32 [zerosL] .own, .row (arrC .u8) 32 [zerosL] .own]) ∧
    K (.exit 0) [(0, .string s), (2, .pointer (some ⟨0, 0, some 0⟩)), (4, .pointer (some ⟨1, 0, some 0⟩))] [.row (arrC .u8) 32 [zerosL] .own, .row (arrC .u8) 32 [readS s] .own]
  | _, _, _ => False
set_option linter.unusedSimpArgs false
theorem rparse_rounds (s : ByteArray) (hs : s.size < 2 ^ 40) (K : Kont) : ∀ (d i : Nat) (x : List Int), i + d = 32 →
    K (.exit 0) [(0, .string s), (2, .pointer (some ⟨0, 0, some 0⟩)), (4, .pointer (some ⟨1, 0, some 0⟩))] [.row (arrC .u8) 32 [zerosL] .own, .row (arrC .u8) 32 [readFrom s d i x] .own] →
    rnds Tryd.prog (callOf [(41, pureS tellG), (40, pureS valueG)]) (hints 24) noTab (d + 1) (lp Tryd.f24 3) [(0, .string s), (2, .pointer (some ⟨0, 0, some 0⟩)), (4, .pointer (some ⟨1, 0, some 0⟩)), (5, .int .i64 i)] [.row (arrC .u8) 32 [zerosL] .own, .row (arrC .u8) 32 [x] .own] K
  | 0, i, x, hi, hK => by
    refine to (R := bcase (decide ((↑i : Int) < (32 : Int))) (bcase (decide ((IntKind.i64.wrap ((IntKind.i64.wrap ((7 : Int) + (IntKind.i64.wrap ((2 : Int) * (↑i : Int))))) + (1 : Int))) < (↑s.size : Int))) (need (((decide ((0 : Int) ≤ (IntKind.i64.wrap ((7 : Int) + (IntKind.i64.wrap ((2 : Int) * (↑i : Int))))))) && (decide ((IntKind.i64.wrap ((7 : Int) + (IntKind.i64.wrap ((2 : Int) * (↑i : Int))))) < (↑s.size : Int)))) && true) (need (((decide ((0 : Int) ≤ (IntKind.i64.wrap ((8 : Int) + (IntKind.i64.wrap ((2 : Int) * (↑i : Int))))))) && (decide ((IntKind.i64.wrap ((8 : Int) + (IntKind.i64.wrap ((2 : Int) * (↑i : Int))))) < (↑s.size : Int)))) && true) (True ∧ (True ∧ (need ((decide ((↑i : Int) < (↑32 : Int))) && true) (need (((↑i : Int).toNat + 1).ble 32) (rnds Tryd.prog (callOf [(41, (pureS tellG)), (40, (pureS valueG))]) (hints 24) noTab (nat_lit 0) (lp Tryd.f24 3) [(0, (.string s)), (2, (.pointer (some (Addr.mk 0 0 (some 0))))), (4, (.pointer (some (Addr.mk 1 0 (some 0))))), (5, (.int .i64 (IntKind.i64.wrap ((↑i : Int) + (1 : Int)))))] [(.row (arrC .u8) 32 [zerosL] .own), (.row (arrC .u8) 32 [(x.set (↑i : Int).toNat (IntKind.u8.wrap ((IntKind.u8.wrap ((16 : Int) * (valS (bt s (IntKind.i64.wrap ((7 : Int) + (IntKind.i64.wrap ((2 : Int) * (↑i : Int))))))))) + (valS (bt s (IntKind.i64.wrap ((8 : Int) + (IntKind.i64.wrap ((2 : Int) * (↑i : Int))))))))))] .own)] K))))))) (K (.exit 0) [(0, (.string s)), (2, (.pointer (some (Addr.mk 0 0 (some 0))))), (4, (.pointer (some (Addr.mk 1 0 (some 0)))))] [(.row (arrC .u8) 32 [zerosL] .own), (.row (arrC .u8) 32 [x] .own)])) (K (.exit 0) [(0, (.string s)), (2, (.pointer (some (Addr.mk 0 0 (some 0))))), (4, (.pointer (some (Addr.mk 1 0 (some 0)))))] [(.row (arrC .u8) 32 [zerosL] .own), (.row (arrC .u8) 32 [x] .own)])) (by kernel_rfl) ?_
    exact bcase_f (by simp; omega) hK
  | d + 1, i, x, hi, hK => by
    have w0 : IntKind.i64.wrap ((i : Int) + 1) = ((i + 1 : Nat) : Int) := wrap_id (by omega) (by omega)
    have w1 : IntKind.i64.wrap (2 * (i : Int)) = ((2 * i : Nat) : Int) := wrap_id (by omega) (by omega)
    have w2 : IntKind.i64.wrap (7 + ((2 * i : Nat) : Int)) = ((7 + 2 * i : Nat) : Int) := wrap_id (by omega) (by omega)
    have w3 : IntKind.i64.wrap (((7 + 2 * i : Nat) : Int) + 1) = ((7 + 2 * i + 1 : Nat) : Int) := wrap_id (by omega) (by omega)
    have w4 : IntKind.i64.wrap (8 + ((2 * i : Nat) : Int)) = ((8 + 2 * i : Nat) : Int) := wrap_id (by omega) (by omega)
    have h1 := valS_lt (bt s ((7 + 2 * i : Nat) : Int))
    have h2 := valS_lt (bt s ((8 + 2 * i : Nat) : Int))
    have w5 : IntKind.u8.wrap (16 * valS (bt s ((7 + 2 * i : Nat) : Int))) = 16 * valS (bt s ((7 + 2 * i : Nat) : Int)) := wrap_u8 (by omega) (by omega)
    have w6 : IntKind.u8.wrap (16 * valS (bt s ((7 + 2 * i : Nat) : Int)) + valS (bt s ((8 + 2 * i : Nat) : Int))) = 16 * valS (bt s ((7 + 2 * i : Nat) : Int)) + valS (bt s ((8 + 2 * i : Nat) : Int)) := wrap_u8 (by omega) (by omega)
    have ih := rparse_rounds s hs K d (i + 1)
    obtain ⟨n, hn⟩ : ∃ n, n = d + 1 := ⟨_, rfl⟩; rw [← hn] at ih ⊢
    refine to (R := bcase (decide ((↑i : Int) < (32 : Int))) (bcase (decide ((IntKind.i64.wrap ((IntKind.i64.wrap ((7 : Int) + (IntKind.i64.wrap ((2 : Int) * (↑i : Int))))) + (1 : Int))) < (↑s.size : Int))) (need (((decide ((0 : Int) ≤ (IntKind.i64.wrap ((7 : Int) + (IntKind.i64.wrap ((2 : Int) * (↑i : Int))))))) && (decide ((IntKind.i64.wrap ((7 : Int) + (IntKind.i64.wrap ((2 : Int) * (↑i : Int))))) < (↑s.size : Int)))) && true) (need (((decide ((0 : Int) ≤ (IntKind.i64.wrap ((8 : Int) + (IntKind.i64.wrap ((2 : Int) * (↑i : Int))))))) && (decide ((IntKind.i64.wrap ((8 : Int) + (IntKind.i64.wrap ((2 : Int) * (↑i : Int))))) < (↑s.size : Int)))) && true) (True ∧ (True ∧ (need ((decide ((↑i : Int) < (↑32 : Int))) && true) (need (((↑i : Int).toNat + 1).ble 32) (rnds Tryd.prog (callOf [(41, (pureS tellG)), (40, (pureS valueG))]) (hints 24) noTab n (lp Tryd.f24 3) [(0, (.string s)), (2, (.pointer (some (Addr.mk 0 0 (some 0))))), (4, (.pointer (some (Addr.mk 1 0 (some 0))))), (5, (.int .i64 (IntKind.i64.wrap ((↑i : Int) + (1 : Int)))))] [(.row (arrC .u8) 32 [zerosL] .own), (.row (arrC .u8) 32 [(x.set (↑i : Int).toNat (IntKind.u8.wrap ((IntKind.u8.wrap ((16 : Int) * (valS (bt s (IntKind.i64.wrap ((7 : Int) + (IntKind.i64.wrap ((2 : Int) * (↑i : Int))))))))) + (valS (bt s (IntKind.i64.wrap ((8 : Int) + (IntKind.i64.wrap ((2 : Int) * (↑i : Int))))))))))] .own)] K))))))) (K (.exit 0) [(0, (.string s)), (2, (.pointer (some (Addr.mk 0 0 (some 0))))), (4, (.pointer (some (Addr.mk 1 0 (some 0)))))] [(.row (arrC .u8) 32 [zerosL] .own), (.row (arrC .u8) 32 [x] .own)])) (K (.exit 0) [(0, (.string s)), (2, (.pointer (some (Addr.mk 0 0 (some 0))))), (4, (.pointer (some (Addr.mk 1 0 (some 0)))))] [(.row (arrC .u8) 32 [zerosL] .own), (.row (arrC .u8) 32 [x] .own)])) (by kernel_rfl) ?_
    simp only [w0, w1, w2, w3, w4, w5, w6, Int.toNat_natCast]
    refine bcase_t (by simp; omega) (bcase_of (fun h => ?_) (fun h => ?_))
    · have hlt : 7 + 2 * i + 1 < s.size := by simp at h; omega
      refine need_of (by simp; omega) (need_of (by simp; omega) ⟨trivial, trivial, need_of (by simp; omega) (need_of (by simp only [Nat.ble_eq, Bool.and_true]; omega) (ih _ (by omega) ?_))⟩)
      simpa only [readFrom, hlt, decide_true, cond_true] using hK
    · have hlt : ¬ (7 + 2 * i + 1 < s.size) := by simp at h; omega
      simpa only [readFrom, hlt, decide_false, cond_false] using hK
theorem rparseLp_ok : CodeOk Tryd.prog Tryd.f24.ntmps (.loop (lp Tryd.f24 3)) rparseLp := by
  refine loop_ok (call := callOf [(41, pureS tellG), (40, pureS valueG)]) (hint := hints 24) (tb := noTab) hm (callOf_cons tell_ok.spec (callOf_cons value_ok.spec callOf_nil)) (by kernel_rfl) (by repeat' first | exact trivial | constructor |  (intro _ h; cases h)) fun fr H K h => ?_
  unfold rparseLp at h
  split at h
  · obtain ⟨⟨rfl, h1, rfl⟩, hK⟩ := h
    unfold readS at hK
    exact ⟨_, rparse_rounds _ h1 _ 32 0 _ (by omega) hK⟩
  · exact h.elim
def tab24 : Tab := ⟨fun | 3 => some rparseLp | _ => none, fun _ => none⟩
/-- A digest's cells. -/
def digL (x : List Int) : List Value := dig fun i => x.getD i 0
theorem decI_digL {x : List Int} (h : x.length = 32) : decI (digL x) = x := by
  match x, h with
  | [a0, a1, a2, a3, a4, a5, a6, a7, a8, a9, a10, a11, a12, a13, a14, a15, a16, a17, a18, a19, a20, a21, a22, a23, a24, a25, a26, a27, a28, a29, a30, a31], _ => rfl
def rparseS (s : ByteArray) : Option (List Int) := bif !((tellS (readS s)).toList == s.toList) then none else some (readS s)
def rparseV (s : ByteArray) : Value := match rparseS s with
  | none => .tuple ⟨[.agg ⟨digL zerosL⟩, .int .i64 10]⟩
  | some x => .tuple ⟨[.agg ⟨digL x⟩, .int .i64 0]⟩
def rparseG : Pure
  | [.string s] => some (s.size < 2 ^ 40, rparseV s)
  | _ => none
theorem rparse_ok : PureOk Tryd.prog 24 rparseG := by
  refine .of_run (call := callOf [(41, pureS tellG), (40, pureS valueG)]) (hint := hints 24) (tb := tab24) hm (callOf_cons tell_ok.spec (callOf_cons value_ok.spec callOf_nil)) Tryd.func24 (by kernel_rfl) rfl (by kernel_rfl) (by repeat' first | exact trivial | constructor | (intro _ h; cases h; exact rparseLp_ok) | (intro _ h; cases h)) fun args c r h => ?_
  unfold rparseG at h
  split at h
  · rename_i s
    cases h
    refine ⟨rfl, fun hs => ⟨?_, 1, fun K hK => ?_⟩⟩
    · unfold rparseV
      split <;> rfl
    refine to (R := ((0 : Int) = 0 ∧ s.size < 2 ^ 40 ∧ ([.row (arrC .u8) 32 [zerosL] .own, .row (arrC .u8) 32 [zerosL] .own] : VH) = [.row (arrC .u8) 32 [zerosL] .own, .row (arrC .u8) 32 [zerosL] .own]) ∧ bytesL (decI (digL (readS s))) ∧
      bcase (!((tellS (decI (digL (readS s)))).toList == s.toList)) (K (.tuple ⟨[.agg ⟨digL zerosL⟩, .int .i64 10]⟩) []) (K (.tuple ⟨[.agg ⟨digL (readS s)⟩, .int .i64 0]⟩) [])) (by kernel_rfl) ?_
    rw [decI_digL (readS_bytes s).2]
    refine ⟨⟨rfl, hs, rfl⟩, (readS_bytes s).1, ?_⟩
    have := hK []
    unfold rparseV rparseS at this
    refine bcase_of (fun h => ?_) (fun h => ?_)
    · rw [h] at this; exact this
    · rw [h] at this; exact this
  · cases h
end Go.Proofs.YtofcjkbgieenlaaDoor.PM

namespace Go.Proofs.YtofcjkbgieenlaaDoor.PM
open Go Go.Proofs
set_option maxRecDepth 100000
set_option linter.unusedVariables false

/-- A name's cells. -/
def refL (d p t : ByteArray) (x : List Int) (b : Bool) : List Value := .string d :: .string p :: .string t :: (digL x ++ [.bool b])
/-- What a name is told by. -/
structure RefT where
  d : ByteArray
  p : ByteArray
  t : ByteArray
  x : List Int
  b : Bool
def RefT.v (r : RefT) : Value := .agg ⟨refL r.d r.p r.t r.x r.b⟩
def isRef : List Value → Option RefT
  | .string d :: .string p :: .string t :: l => match l.drop 32 with
    | [.bool b] => bif isDig (l.take 32) then some ⟨d, p, t, decI (l.take 32), b⟩ else none
    | _ => none
  | _ => none
structure RefOk (r : RefT) : Prop where
  d : r.d.size < 2 ^ 30
  p : r.p.size < 2 ^ 30
  t : r.t.size < 2 ^ 30
  x : bytesL r.x
  n : r.x.length = 32
theorem isRef_some {l : List Value} {r : RefT} (h : isRef l = some r) : l = refL r.d r.p r.t r.x r.b ∧ r.x.length = 32 := by
  unfold isRef at h
  split at h
  · rename_i d p t m
    split at h
    · rename_i b hb
      cases hd : isDig (m.take 32) with
      | false => rw [hd] at h; cases h
      | true =>
        rw [hd] at h
        obtain rfl := Option.some.inj h
        have h1 := dig_of hd
        have h2 : m = m.take 32 ++ m.drop 32 := (List.take_append_drop 32 m).symm
        refine ⟨?_, ?_⟩
        · unfold refL digL
          simp only
          rw [← h1, ← hb, ← h2]
        · simp only [isDig, Bool.and_eq_true] at hd
          have h3 := congrArg List.length (enc_decI hd.1)
          rw [List.length_map] at h3
          rw [h3]
          exact Nat.eq_of_beq_eq_true hd.2
    · cases h
  · cases h
theorem plain_ref {l : List Value} {r : RefT} (h : isRef l = some r) : plainL l = true := by
  rw [(isRef_some h).1]; rfl
def textS (tell : List Int → ByteArray) (r : RefT) : ByteArray :=
  let s := r.d ++ ⟨#[47]⟩ ++ r.p
  let s := bif !isS r.t [] then s ++ ⟨#[58]⟩ ++ r.t else s
  bif r.b then s ++ ⟨#[64]⟩ ++ tell r.x else s
def textG : Pure
  | [.agg ⟨l⟩] => match isRef l with
    | some r => some (RefOk r, .string (textS tellS r))
    | none => none
  | _ => none
theorem tellFrom_size {x : List Int} (hx : bytesL x) : ∀ (d i : Nat) (s : ByteArray), (tellFrom x d i s).size = s.size + 2 * d
  | 0, i, s => by simp [tellFrom]
  | d + 1, i, s => by
    have hb := hx i
    have hq : (x.getD i 0).tdiv 16 = x.getD i 0 / 16 := Int.tdiv_eq_ediv_of_nonneg hb.1
    have hr : (x.getD i 0).tmod 16 = x.getD i 0 % 16 := Int.tmod_eq_emod_of_nonneg hb.1
    have h1 := hexS_size (c := (x.getD i 0).tdiv 16) (by omega) (by omega)
    have h2 := hexS_size (c := (x.getD i 0).tmod 16) (by omega) (by omega)
    unfold tellFrom
    rw [tellFrom_size hx d (i + 1), ByteArray.size_append, ByteArray.size_append, h1, h2]
    omega
theorem tellS_size {x : List Int} (hx : bytesL x) : (tellS x).size = 71 := tellFrom_size hx 32 0 headT
theorem text_ok : PureOk Tryd.prog 27 textG := by
  refine .of_run (call := callOf [(41, pureS tellG)]) (hint := hints 27) (tb := noTab) hm (callOf_cons tell_ok.spec callOf_nil) Tryd.func27 (by kernel_rfl) rfl (by kernel_rfl) (by repeat' first | exact trivial | constructor |  (intro _ h; cases h)) fun args c r h => ?_
  unfold textG at h
  split at h
  · rename_i l
    split at h
    · rename_i r hr
      cases h
      refine ⟨by show (plainL l && true) = true; rw [plain_ref hr]; rfl, fun hs => ⟨rfl, 1, fun K hK => ?_⟩⟩
      obtain ⟨h1, h2⟩ := isRef_some hr
      rw [h1]
      obtain ⟨d, p, t, x, b⟩ := r
      obtain ⟨k1, k2, k3, k4, k5⟩ := hs
      simp only at k1 k2 k3 k4 k5 h2
      have ht : (tellS x).size = 71 := tellS_size k4
      have hd := decI_digL h2
      refine to (R := need (decide (((RefT.mk d p t x b).d.size + 1) < 9223372036854775808)) (need (decide ((((RefT.mk d p t x b).d ++ (ByteArray.mk #[47])).size + (RefT.mk d p t x b).p.size) < 9223372036854775808)) (bcase (!((RefT.mk d p t x b).t.toList == (ByteArray.mk #[]).toList)) (need (decide (((((RefT.mk d p t x b).d ++ (ByteArray.mk #[47])) ++ (RefT.mk d p t x b).p).size + 1) < 9223372036854775808)) (need (decide ((((((RefT.mk d p t x b).d ++ (ByteArray.mk #[47])) ++ (RefT.mk d p t x b).p) ++ (ByteArray.mk #[58])).size + (RefT.mk d p t x b).t.size) < 9223372036854775808)) (bcase (RefT.mk d p t x b).b (need (decide (((((((RefT.mk d p t x b).d ++ (ByteArray.mk #[47])) ++ (RefT.mk d p t x b).p) ++ (ByteArray.mk #[58])) ++ (RefT.mk d p t x b).t).size + 1) < 9223372036854775808)) ((bytesL (decI (digL (RefT.mk d p t x b).x))) ∧ (need (decide ((((((((RefT.mk d p t x b).d ++ (ByteArray.mk #[47])) ++ (RefT.mk d p t x b).p) ++ (ByteArray.mk #[58])) ++ (RefT.mk d p t x b).t) ++ (ByteArray.mk #[64])).size + (tellS (decI (digL (RefT.mk d p t x b).x))).size) < 9223372036854775808)) (K (.string (((((((RefT.mk d p t x b).d ++ (ByteArray.mk #[47])) ++ (RefT.mk d p t x b).p) ++ (ByteArray.mk #[58])) ++ (RefT.mk d p t x b).t) ++ (ByteArray.mk #[64])) ++ (tellS (decI (digL (RefT.mk d p t x b).x))))) [])))) (K (.string (((((RefT.mk d p t x b).d ++ (ByteArray.mk #[47])) ++ (RefT.mk d p t x b).p) ++ (ByteArray.mk #[58])) ++ (RefT.mk d p t x b).t)) [])))) (bcase (RefT.mk d p t x b).b (need (decide (((((RefT.mk d p t x b).d ++ (ByteArray.mk #[47])) ++ (RefT.mk d p t x b).p).size + 1) < 9223372036854775808)) ((bytesL (decI (digL (RefT.mk d p t x b).x))) ∧ (need (decide ((((((RefT.mk d p t x b).d ++ (ByteArray.mk #[47])) ++ (RefT.mk d p t x b).p) ++ (ByteArray.mk #[64])).size + (tellS (decI (digL (RefT.mk d p t x b).x))).size) < 9223372036854775808)) (K (.string (((((RefT.mk d p t x b).d ++ (ByteArray.mk #[47])) ++ (RefT.mk d p t x b).p) ++ (ByteArray.mk #[64])) ++ (tellS (decI (digL (RefT.mk d p t x b).x))))) [])))) (K (.string (((RefT.mk d p t x b).d ++ (ByteArray.mk #[47])) ++ (RefT.mk d p t x b).p)) []))))) (by kernel_rfl) ?_
      simp only [hd]
      clear h1 hr hd
      ((repeat' first | with_reducible exact trivial | with_reducible refine need_of (by first | first | with_reducible assumption | with_reducible exact pos_of (by assumption) | with_reducible exact pos_of' (by assumption) | omega | (simp only [ByteArray.size_append, sz1, decide_eq_true_eq, *]; omega) | decide | (simp only [Bool.and_true, Bool.and_eq_true, decide_eq_true_eq, ByteArray.size_extract, ByteArray.size_append, sz1, Int.toNat_natCast, List.getD_eq_getElem?_getD, beq_iff_eq, decide_eq_false_iff_not] at *; omega) | ((repeat' constructor) <;> first | rfl | first | with_reducible assumption | with_reducible exact pos_of (by assumption) | with_reducible exact pos_of' (by assumption) | omega | (simp only [ByteArray.size_append, sz1, decide_eq_true_eq, *]; omega) | decide | (simp only [Bool.and_true, Bool.and_eq_true, decide_eq_true_eq, ByteArray.size_extract, ByteArray.size_append, sz1, Int.toNat_natCast, List.getD_eq_getElem?_getD, beq_iff_eq, decide_eq_false_iff_not] at *; omega))) ?_ | with_reducible refine And.intro (by first | first | with_reducible assumption | with_reducible exact pos_of (by assumption) | with_reducible exact pos_of' (by assumption) | omega | (simp only [ByteArray.size_append, sz1, decide_eq_true_eq, *]; omega) | decide | (simp only [Bool.and_true, Bool.and_eq_true, decide_eq_true_eq, ByteArray.size_extract, ByteArray.size_append, sz1, Int.toNat_natCast, List.getD_eq_getElem?_getD, beq_iff_eq, decide_eq_false_iff_not] at *; omega) | ((repeat' constructor) <;> first | rfl | first | with_reducible assumption | with_reducible exact pos_of (by assumption) | with_reducible exact pos_of' (by assumption) | omega | (simp only [ByteArray.size_append, sz1, decide_eq_true_eq, *]; omega) | decide | (simp only [Bool.and_true, Bool.and_eq_true, decide_eq_true_eq, ByteArray.size_extract, ByteArray.size_append, sz1, Int.toNat_natCast, List.getD_eq_getElem?_getD, beq_iff_eq, decide_eq_false_iff_not] at *; omega))) ?_ | with_reducible refine bcase_not ?_ | with_reducible refine bcase_t (by assumption) ?_ | with_reducible refine bcase_f (by assumption) ?_ | with_reducible refine bcase_of (fun h => ?_) (fun h => ?_)) <;> (have := hK []; simp only [isS, textS, *, cond_true, cond_false, Bool.not_true, Bool.not_false, Bool.and_true, Bool.and_false, Bool.true_and, Bool.false_and, Bool.or_true, Bool.or_false, Bool.true_or, Bool.false_or] at this ⊢; exact this))
    · cases h
  · cases h
end Go.Proofs.YtofcjkbgieenlaaDoor.PM

namespace Go.Proofs.YtofcjkbgieenlaaDoor.PM
open Go Go.Proofs
set_option maxRecDepth 100000
set_option linter.unusedVariables false

abbrev tagT : ByteArray := (ByteArray.mk #[97, 98, 99, 100, 101, 102, 103, 104, 105, 106, 107, 108, 109, 110, 111, 112, 113, 114, 115, 116, 117, 118, 119, 120, 121, 122, 48, 49, 50, 51, 52, 53, 54, 55, 56, 57, 65, 66, 67, 68, 69, 70, 71, 72, 73, 74, 75, 76, 77, 78, 79, 80, 81, 82, 83, 84, 85, 86, 87, 88, 89, 90, 95, 46, 45])
/-- The comparison of two digests. -/
def eqF (x y : List Int) : Nat → Nat → Bool
  | 0, _ => true
  | n + 1, i => x.getD i 0 == y.getD i 0 && eqF x y n (i + 1)
def eqD (x y : List Int) : Bool := eqF x y 32 0
def zerosI : List Int := List.replicate 32 0
def rcheckS (r : RefT) : Int :=
  bif !domainS r.d || (isS (frontS (r.d ++ ⟨#[47]⟩)) [] || (isS r.d [105, 110, 100, 101, 120, 46, 100, 111, 99, 107, 101, 114, 46, 105, 111] || (!pathS r.p || (isS r.d [100, 111, 99, 107, 101, 114, 46, 105, 111] && decide (((cutAll r.p 47).length : Int) < 2))))) then 10 else
  bif (isS r.t [] && !r.b) || (!isS r.t [] && (decide ((r.t.size : Int) > 32) || (!ofS r.t tagT || (bt r.t 0 == 46 || bt r.t 0 == 45)))) then 10 else
  bif (!r.b && !eqD r.x zerosI) || decide (((textS tellS r).size : Int) > 200) then 10 else 0
def rcheckG : Pure
  | [.agg ⟨l⟩] => match isRef l with
    | some r => some (RefOk r, .int .i64 (rcheckS r))
    | none => none
  | _ => none
theorem rcheck_ok : PureOk Tryd.prog 16 rcheckG := by
  refine .of_run (call := callOf [(33, pureS domainG), (25, pureS frontG), (34, pureS pathG), (23, memS cutG), (35, pureS ofG), (27, pureS textG)]) (hint := hints 16) (tb := noTab) hm (callOf_cons domain_ok.spec (callOf_cons front_ok.spec (callOf_cons path_ok.spec (callOf_cons cut_ok.spec (callOf_cons of_ok.spec (callOf_cons text_ok.spec callOf_nil)))))) Tryd.func16 (by kernel_rfl) rfl (by kernel_rfl) (by repeat' first | exact trivial | constructor |  (intro _ h; cases h)) fun args c r h => ?_
  unfold rcheckG at h
  split at h
  · rename_i l
    split at h
    · rename_i r hr
      cases h
      refine ⟨by show (plainL l && true) = true; rw [plain_ref hr]; rfl, fun hs => ⟨rfl, 1, fun K hK => ?_⟩⟩
      obtain ⟨h1, h2⟩ := isRef_some hr
      rw [h1]
      have hs2 := hs
      obtain ⟨k1, k2, k3, k4, k5⟩ := hs2
      have hd := decI_digL h2
      have he : RefT.mk r.d r.p r.t (decI (digL r.x)) r.b = r := by rw [hd]
      refine to (R := (r.d.size < 1099511627776) ∧ (bcase (!(domainS r.d)) (K (.int .i64 (10 : Int)) []) (need (decide ((r.d.size + 1) < 9223372036854775808)) (((r.d ++ (ByteArray.mk #[47])).size < 1099511627776) ∧ (bcase ((frontS (r.d ++ (ByteArray.mk #[47]))).toList == (ByteArray.mk #[]).toList) (K (.int .i64 (10 : Int)) []) (bcase (r.d.toList == (ByteArray.mk #[105, 110, 100, 101, 120, 46, 100, 111, 99, 107, 101, 114, 46, 105, 111]).toList) (K (.int .i64 (10 : Int)) []) ((r.p.size < 1099511627776) ∧ (bcase (!(pathS r.p)) (K (.int .i64 (10 : Int)) []) (bcase (r.d.toList == (ByteArray.mk #[100, 111, 99, 107, 101, 114, 46, 105, 111]).toList) ((r.p.size < 1099511627776) ∧ (bcase (decide ((↑(cutAll r.p (47 : Int)).length : Int) < (2 : Int))) (K (.int .i64 (10 : Int)) []) (bcase (r.t.toList == (ByteArray.mk #[]).toList) (bcase (!r.b) (K (.int .i64 (10 : Int)) []) (bcase (!(r.t.toList == (ByteArray.mk #[]).toList)) (bcase (decide ((↑r.t.size : Int) > (32 : Int))) (K (.int .i64 (10 : Int)) []) (((r.t.size < 4611686018427387904) ∧ (65 < 4611686018427387904)) ∧ (bcase (!(ofFrom r.t (ByteArray.mk #[97, 98, 99, 100, 101, 102, 103, 104, 105, 106, 107, 108, 109, 110, 111, 112, 113, 114, 115, 116, 117, 118, 119, 120, 121, 122, 48, 49, 50, 51, 52, 53, 54, 55, 56, 57, 65, 66, 67, 68, 69, 70, 71, 72, 73, 74, 75, 76, 77, 78, 79, 80, 81, 82, 83, 84, 85, 86, 87, 88, 89, 90, 95, 46, 45]) 0 r.t.size)) (K (.int .i64 (10 : Int)) []) (need (decide ((0 : Int) < (↑r.t.size : Int))) (bcase ((bt r.t (0 : Int)) == (46 : Int)) (K (.int .i64 (10 : Int)) []) (need (decide ((0 : Int) < (↑r.t.size : Int))) (bcase ((bt r.t (0 : Int)) == (45 : Int)) (K (.int .i64 (10 : Int)) []) (bcase (!r.b) (bcase (!(eqD r.x zerosI)) (K (.int .i64 (10 : Int)) []) ((RefOk (RefT.mk r.d r.p r.t (decI (digL r.x)) r.b)) ∧ (bcase (decide ((↑(textS tellS (RefT.mk r.d r.p r.t (decI (digL r.x)) r.b)).size : Int) > (200 : Int))) (K (.int .i64 (10 : Int)) []) (K (.int .i64 (0 : Int)) [])))) ((RefOk (RefT.mk r.d r.p r.t (decI (digL r.x)) r.b)) ∧ (bcase (decide ((↑(textS tellS (RefT.mk r.d r.p r.t (decI (digL r.x)) r.b)).size : Int) > (200 : Int))) (K (.int .i64 (10 : Int)) []) (K (.int .i64 (0 : Int)) []))))))))))) (bcase (!r.b) (bcase (!(eqD r.x zerosI)) (K (.int .i64 (10 : Int)) []) ((RefOk (RefT.mk r.d r.p r.t (decI (digL r.x)) r.b)) ∧ (bcase (decide ((↑(textS tellS (RefT.mk r.d r.p r.t (decI (digL r.x)) r.b)).size : Int) > (200 : Int))) (K (.int .i64 (10 : Int)) []) (K (.int .i64 (0 : Int)) [])))) ((RefOk (RefT.mk r.d r.p r.t (decI (digL r.x)) r.b)) ∧ (bcase (decide ((↑(textS tellS (RefT.mk r.d r.p r.t (decI (digL r.x)) r.b)).size : Int) > (200 : Int))) (K (.int .i64 (10 : Int)) []) (K (.int .i64 (0 : Int)) [])))))) (bcase (!(r.t.toList == (ByteArray.mk #[]).toList)) (bcase (decide ((↑r.t.size : Int) > (32 : Int))) (K (.int .i64 (10 : Int)) []) (((r.t.size < 4611686018427387904) ∧ (65 < 4611686018427387904)) ∧ (bcase (!(ofFrom r.t (ByteArray.mk #[97, 98, 99, 100, 101, 102, 103, 104, 105, 106, 107, 108, 109, 110, 111, 112, 113, 114, 115, 116, 117, 118, 119, 120, 121, 122, 48, 49, 50, 51, 52, 53, 54, 55, 56, 57, 65, 66, 67, 68, 69, 70, 71, 72, 73, 74, 75, 76, 77, 78, 79, 80, 81, 82, 83, 84, 85, 86, 87, 88, 89, 90, 95, 46, 45]) 0 r.t.size)) (K (.int .i64 (10 : Int)) []) (need (decide ((0 : Int) < (↑r.t.size : Int))) (bcase ((bt r.t (0 : Int)) == (46 : Int)) (K (.int .i64 (10 : Int)) []) (need (decide ((0 : Int) < (↑r.t.size : Int))) (bcase ((bt r.t (0 : Int)) == (45 : Int)) (K (.int .i64 (10 : Int)) []) (bcase (!r.b) (bcase (!(eqD r.x zerosI)) (K (.int .i64 (10 : Int)) []) ((RefOk (RefT.mk r.d r.p r.t (decI (digL r.x)) r.b)) ∧ (bcase (decide ((↑(textS tellS (RefT.mk r.d r.p r.t (decI (digL r.x)) r.b)).size : Int) > (200 : Int))) (K (.int .i64 (10 : Int)) []) (K (.int .i64 (0 : Int)) [])))) ((RefOk (RefT.mk r.d r.p r.t (decI (digL r.x)) r.b)) ∧ (bcase (decide ((↑(textS tellS (RefT.mk r.d r.p r.t (decI (digL r.x)) r.b)).size : Int) > (200 : Int))) (K (.int .i64 (10 : Int)) []) (K (.int .i64 (0 : Int)) []))))))))))) (bcase (!r.b) (bcase (!(eqD r.x zerosI)) (K (.int .i64 (10 : Int)) []) ((RefOk (RefT.mk r.d r.p r.t (decI (digL r.x)) r.b)) ∧ (bcase (decide ((↑(textS tellS (RefT.mk r.d r.p r.t (decI (digL r.x)) r.b)).size : Int) > (200 : Int))) (K (.int .i64 (10 : Int)) []) (K (.int .i64 (0 : Int)) [])))) ((RefOk (RefT.mk r.d r.p r.t (decI (digL r.x)) r.b)) ∧ (bcase (decide ((↑(textS tellS (RefT.mk r.d r.p r.t (decI (digL r.x)) r.b)).size : Int) > (200 : Int))) (K (.int .i64 (10 : Int)) []) (K (.int .i64 (0 : Int)) [])))))))) (bcase (r.t.toList == (ByteArray.mk #[]).toList) (bcase (!r.b) (K (.int .i64 (10 : Int)) []) (bcase (!(r.t.toList == (ByteArray.mk #[]).toList)) (bcase (decide ((↑r.t.size : Int) > (32 : Int))) (K (.int .i64 (10 : Int)) []) (((r.t.size < 4611686018427387904) ∧ (65 < 4611686018427387904)) ∧ (bcase (!(ofFrom r.t (ByteArray.mk #[97, 98, 99, 100, 101, 102, 103, 104, 105, 106, 107, 108, 109, 110, 111, 112, 113, 114, 115, 116, 117, 118, 119, 120, 121, 122, 48, 49, 50, 51, 52, 53, 54, 55, 56, 57, 65, 66, 67, 68, 69, 70, 71, 72, 73, 74, 75, 76, 77, 78, 79, 80, 81, 82, 83, 84, 85, 86, 87, 88, 89, 90, 95, 46, 45]) 0 r.t.size)) (K (.int .i64 (10 : Int)) []) (need (decide ((0 : Int) < (↑r.t.size : Int))) (bcase ((bt r.t (0 : Int)) == (46 : Int)) (K (.int .i64 (10 : Int)) []) (need (decide ((0 : Int) < (↑r.t.size : Int))) (bcase ((bt r.t (0 : Int)) == (45 : Int)) (K (.int .i64 (10 : Int)) []) (bcase (!r.b) (bcase (!(eqD r.x zerosI)) (K (.int .i64 (10 : Int)) []) ((RefOk (RefT.mk r.d r.p r.t (decI (digL r.x)) r.b)) ∧ (bcase (decide ((↑(textS tellS (RefT.mk r.d r.p r.t (decI (digL r.x)) r.b)).size : Int) > (200 : Int))) (K (.int .i64 (10 : Int)) []) (K (.int .i64 (0 : Int)) [])))) ((RefOk (RefT.mk r.d r.p r.t (decI (digL r.x)) r.b)) ∧ (bcase (decide ((↑(textS tellS (RefT.mk r.d r.p r.t (decI (digL r.x)) r.b)).size : Int) > (200 : Int))) (K (.int .i64 (10 : Int)) []) (K (.int .i64 (0 : Int)) []))))))))))) (bcase (!r.b) (bcase (!(eqD r.x zerosI)) (K (.int .i64 (10 : Int)) []) ((RefOk (RefT.mk r.d r.p r.t (decI (digL r.x)) r.b)) ∧ (bcase (decide ((↑(textS tellS (RefT.mk r.d r.p r.t (decI (digL r.x)) r.b)).size : Int) > (200 : Int))) (K (.int .i64 (10 : Int)) []) (K (.int .i64 (0 : Int)) [])))) ((RefOk (RefT.mk r.d r.p r.t (decI (digL r.x)) r.b)) ∧ (bcase (decide ((↑(textS tellS (RefT.mk r.d r.p r.t (decI (digL r.x)) r.b)).size : Int) > (200 : Int))) (K (.int .i64 (10 : Int)) []) (K (.int .i64 (0 : Int)) [])))))) (bcase (!(r.t.toList == (ByteArray.mk #[]).toList)) (bcase (decide ((↑r.t.size : Int) > (32 : Int))) (K (.int .i64 (10 : Int)) []) (((r.t.size < 4611686018427387904) ∧ (65 < 4611686018427387904)) ∧ (bcase (!(ofFrom r.t (ByteArray.mk #[97, 98, 99, 100, 101, 102, 103, 104, 105, 106, 107, 108, 109, 110, 111, 112, 113, 114, 115, 116, 117, 118, 119, 120, 121, 122, 48, 49, 50, 51, 52, 53, 54, 55, 56, 57, 65, 66, 67, 68, 69, 70, 71, 72, 73, 74, 75, 76, 77, 78, 79, 80, 81, 82, 83, 84, 85, 86, 87, 88, 89, 90, 95, 46, 45]) 0 r.t.size)) (K (.int .i64 (10 : Int)) []) (need (decide ((0 : Int) < (↑r.t.size : Int))) (bcase ((bt r.t (0 : Int)) == (46 : Int)) (K (.int .i64 (10 : Int)) []) (need (decide ((0 : Int) < (↑r.t.size : Int))) (bcase ((bt r.t (0 : Int)) == (45 : Int)) (K (.int .i64 (10 : Int)) []) (bcase (!r.b) (bcase (!(eqD r.x zerosI)) (K (.int .i64 (10 : Int)) []) ((RefOk (RefT.mk r.d r.p r.t (decI (digL r.x)) r.b)) ∧ (bcase (decide ((↑(textS tellS (RefT.mk r.d r.p r.t (decI (digL r.x)) r.b)).size : Int) > (200 : Int))) (K (.int .i64 (10 : Int)) []) (K (.int .i64 (0 : Int)) [])))) ((RefOk (RefT.mk r.d r.p r.t (decI (digL r.x)) r.b)) ∧ (bcase (decide ((↑(textS tellS (RefT.mk r.d r.p r.t (decI (digL r.x)) r.b)).size : Int) > (200 : Int))) (K (.int .i64 (10 : Int)) []) (K (.int .i64 (0 : Int)) []))))))))))) (bcase (!r.b) (bcase (!(eqD r.x zerosI)) (K (.int .i64 (10 : Int)) []) ((RefOk (RefT.mk r.d r.p r.t (decI (digL r.x)) r.b)) ∧ (bcase (decide ((↑(textS tellS (RefT.mk r.d r.p r.t (decI (digL r.x)) r.b)).size : Int) > (200 : Int))) (K (.int .i64 (10 : Int)) []) (K (.int .i64 (0 : Int)) [])))) ((RefOk (RefT.mk r.d r.p r.t (decI (digL r.x)) r.b)) ∧ (bcase (decide ((↑(textS tellS (RefT.mk r.d r.p r.t (decI (digL r.x)) r.b)).size : Int) > (200 : Int))) (K (.int .i64 (10 : Int)) []) (K (.int .i64 (0 : Int)) []))))))))))))))) (by kernel_rfl) ?_
      simp only [he]
      clear h1 hr hd he
      ((repeat' first | with_reducible exact trivial | with_reducible refine need_of (by first | first | with_reducible assumption | with_reducible exact pos_of (by assumption) | with_reducible exact pos_of' (by assumption) | omega | (simp only [ByteArray.size_append, sz1, decide_eq_true_eq, *]; omega) | decide | (simp only [Bool.and_true, Bool.and_eq_true, decide_eq_true_eq, ByteArray.size_extract, ByteArray.size_append, sz1, Int.toNat_natCast, List.getD_eq_getElem?_getD, beq_iff_eq, decide_eq_false_iff_not] at *; omega) | ((repeat' constructor) <;> first | rfl | first | with_reducible assumption | with_reducible exact pos_of (by assumption) | with_reducible exact pos_of' (by assumption) | omega | (simp only [ByteArray.size_append, sz1, decide_eq_true_eq, *]; omega) | decide | (simp only [Bool.and_true, Bool.and_eq_true, decide_eq_true_eq, ByteArray.size_extract, ByteArray.size_append, sz1, Int.toNat_natCast, List.getD_eq_getElem?_getD, beq_iff_eq, decide_eq_false_iff_not] at *; omega))) ?_ | with_reducible refine And.intro (by first | first | with_reducible assumption | with_reducible exact pos_of (by assumption) | with_reducible exact pos_of' (by assumption) | omega | (simp only [ByteArray.size_append, sz1, decide_eq_true_eq, *]; omega) | decide | (simp only [Bool.and_true, Bool.and_eq_true, decide_eq_true_eq, ByteArray.size_extract, ByteArray.size_append, sz1, Int.toNat_natCast, List.getD_eq_getElem?_getD, beq_iff_eq, decide_eq_false_iff_not] at *; omega) | ((repeat' constructor) <;> first | rfl | first | with_reducible assumption | with_reducible exact pos_of (by assumption) | with_reducible exact pos_of' (by assumption) | omega | (simp only [ByteArray.size_append, sz1, decide_eq_true_eq, *]; omega) | decide | (simp only [Bool.and_true, Bool.and_eq_true, decide_eq_true_eq, ByteArray.size_extract, ByteArray.size_append, sz1, Int.toNat_natCast, List.getD_eq_getElem?_getD, beq_iff_eq, decide_eq_false_iff_not] at *; omega))) ?_ | with_reducible refine bcase_not ?_ | with_reducible refine bcase_t (by assumption) ?_ | with_reducible refine bcase_f (by assumption) ?_ | with_reducible refine bcase_of (fun h => ?_) (fun h => ?_)) <;> (have := hK []; simp only [isS, rcheckS, ofS, tagT, *, cond_true, cond_false, Bool.not_true, Bool.not_false, Bool.and_true, Bool.and_false, Bool.true_and, Bool.false_and, Bool.or_true, Bool.or_false, Bool.true_or, Bool.false_or] at this ⊢; exact this))
    · cases h
  · cases h
end Go.Proofs.YtofcjkbgieenlaaDoor.PM

namespace Go.Proofs.YtofcjkbgieenlaaDoor.PM
open Go Go.Proofs
set_option linter.unusedVariables false

/-- A list's bytes, and a text's list. -/
abbrev ofL (l : List UInt8) : ByteArray := ⟨l.toArray⟩
abbrev li (s : ByteArray) : List UInt8 := s.data.toList
theorem ofL_li (s : ByteArray) : ofL (li s) = s := by cases s; rfl
theorem li_ofL (l : List UInt8) : li (ofL l) = l := rfl
theorem li_inj {s t : ByteArray} (h : li s = li t) : s = t := by rw [← ofL_li s, ← ofL_li t, h]
theorem ofL_append (a b : List UInt8) : ofL a ++ ofL b = ofL (a ++ b) := by
  apply ByteArray.ext; simp
theorem li_append (s t : ByteArray) : li (s ++ t) = li s ++ li t := by show (s ++ t).data.toList = _; rw [ByteArray.data_append, Array.toList_append]
theorem li_size (s : ByteArray) : (li s).length = s.size := Array.length_toList
theorem li_extract (s : ByteArray) (a b : Nat) : li (s.extract a b) = ((li s).take b).drop a := by
  simp [li, ByteArray.data_extract, Array.toList_extract, List.drop_take]
theorem bt_li (s : ByteArray) (i : Int) : bt s i = (((li s).getD i.toNat 0).toNat : Int) := rfl
/-- The parts of a list, ahead of each c and behind it. -/
def spl (c : UInt8) : List UInt8 → List (List UInt8)
  | [] => [[]]
  | a :: l => if a = c then [] :: spl c l else match spl c l with
    | [] => [[a]]
    | h :: t => (a :: h) :: t
def glue (x : List UInt8) : List (List UInt8) → List (List UInt8)
  | [] => [x]
  | h :: t => (x ++ h) :: t
theorem spl_ne (c : UInt8) : ∀ l, spl c l ≠ []
  | [] => by rw [spl]; exact List.cons_ne_nil _ _
  | a :: l => by
    rw [spl]; split
    · exact List.cons_ne_nil _ _
    · split <;> exact List.cons_ne_nil _ _
theorem glue_nil {l : List (List UInt8)} (h : l ≠ []) : glue [] l = l := by
  cases l with
  | nil => exact absurd rfl h
  | cons a l => rfl
theorem glue_cons (x : List UInt8) (a c : UInt8) (l : List UInt8) (h : a ≠ c) : glue x (spl c (a :: l)) = glue (x ++ [a]) (spl c l) := by
  rw [spl, if_neg h]
  cases hl : spl c l with
  | nil => exact absurd hl (spl_ne c l)
  | cons b t => simp [glue]
theorem cutFrom_spl (s : ByteArray) (c : UInt8) : ∀ (d i : Nat) (pre : List ByteArray) (x : List UInt8), i + d = s.size →
    cutFrom s (c.toNat : Int) d (pre ++ [ofL x]) i = pre ++ (glue x (spl c ((li s).drop i))).map ofL
  | 0, i, pre, x, h => by
    rw [List.drop_of_length_le (by rw [li_size]; omega)]
    simp [cutFrom, spl, glue]
  | d + 1, i, pre, x, h => by
    have hi : i < (li s).length := by rw [li_size]; omega
    rw [List.drop_eq_getElem_cons hi]
    unfold cutFrom cutStep
    have hb : bt s (i : Int) = (((li s)[i]).toNat : Int) := by
      rw [bt_li, Int.toNat_natCast, List.getD_eq_getElem?_getD, List.getElem?_eq_getElem hi]; rfl
    rw [hb]
    by_cases hc : (li s)[i] = c
    · rw [hc, if_pos (by simp)]
      have := cutFrom_spl s c d (i + 1) (pre ++ [ofL x]) [] (by omega)
      rw [glue_nil (spl_ne _ _)] at this
      rw [this, spl, if_pos rfl]
      simp [glue]
    · have hne : ((((li s)[i]).toNat : Int) == (c.toNat : Int)) = false := by
        rw [beq_eq_false_iff_ne]
        intro h
        exact hc (UInt8.toNat_inj.1 (by omega))
      rw [hne, glue_cons _ _ _ _ hc, ← cutFrom_spl s c d (i + 1) pre (x ++ [(li s)[i]]) (by omega)]
      have hex : s.extract i (i + 1) = ofL [(li s)[i]] := li_inj (by
        show _ = [(li s)[i]]
        rw [li_extract, List.drop_take, show i + 1 - i = 1 by omega, List.drop_eq_getElem_cons hi]; rfl)
      rw [hex, List.length_append, List.length_singleton, Nat.add_sub_cancel]
      simp only [Bool.false_eq_true, if_false]
      rw [List.set_append_right _ _ (Nat.le_refl _), Nat.sub_self, List.getD_eq_getElem?_getD, List.getElem?_append_right (Nat.le_refl _), Nat.sub_self, List.set_cons_zero, List.getElem?_cons_zero, Option.getD_some, ofL_append]
theorem cutAll_spl (s : ByteArray) (c : UInt8) : cutAll s (c.toNat : Int) = (spl c (li s)).map ofL := by
  have := cutFrom_spl s c s.size 0 [] [] (Nat.zero_add _)
  rw [glue_nil (spl_ne _ _), List.drop_zero] at this
  exact this
theorem spl_sum (c : UInt8) : ∀ l, ((spl c l).map List.length).sum + (spl c l).length = l.length + 1
  | [] => rfl
  | a :: l => by
    have ih := spl_sum c l
    rw [spl]
    split
    · simp only [List.map_cons, List.sum_cons, List.length_cons, List.length_nil]; omega
    · cases h : spl c l with
      | nil => exact absurd h (spl_ne c l)
      | cons b t =>
        rw [h] at ih
        simp only [List.map_cons, List.sum_cons, List.length_cons] at ih ⊢; omega
theorem spl_none {c : UInt8} : ∀ {l : List UInt8}, c ∉ l → spl c l = [l]
  | [], _ => rfl
  | a :: l, h => by
    rw [spl, if_neg (fun e => h (by rw [e]; exact List.mem_cons_self)), spl_none (fun e => h (List.mem_cons_of_mem _ e))]
theorem spl_first {c : UInt8} : ∀ {a : List UInt8} (b : List UInt8), c ∉ a → spl c (a ++ c :: b) = a :: spl c b
  | [], b, _ => by rw [List.nil_append, spl, if_pos rfl]
  | x :: a, b, h => by
    rw [List.cons_append, spl, if_neg (fun e => h (by rw [e]; exact List.mem_cons_self)), spl_first b (fun e => h (List.mem_cons_of_mem _ e))]
theorem spl_last {c : UInt8} {b : List UInt8} (h : c ∉ b) : ∀ (a : List UInt8), spl c (a ++ c :: b) = spl c a ++ [b]
  | [] => by
    have e : spl c (c :: b) = [] :: spl c b := by rw [spl, if_pos rfl]
    rw [List.nil_append, e, spl_none h]; rfl
  | x :: a => by
    have e : ∀ l, spl c (x :: l) = if x = c then [] :: spl c l else match spl c l with
      | [] => [[x]]
      | h :: t => (x :: h) :: t := fun l => by rw [spl]
    rw [List.cons_append, e, e, spl_last h a]
    split
    · rfl
    · cases hs : spl c a with
      | nil => exact absurd hs (spl_ne c a)
      | cons y t => rfl
theorem mem_sum {x : List UInt8} : ∀ {l : List (List UInt8)}, x ∈ l → x.length ≤ (l.map List.length).sum
  | y :: l, h => by
    simp only [List.map_cons, List.sum_cons]
    rcases List.mem_cons.1 h with rfl | h
    · omega
    · have := mem_sum h; omega
/-- A part, and what parts it, are no longer than the text. -/
theorem cutAll_room (s : ByteArray) (c : UInt8) (j : Nat) : ((cutAll s (c.toNat : Int)).getD j (ByteArray.mk #[])).size + (cutAll s (c.toNat : Int)).length ≤ s.size + 1 := by
  have h := spl_sum c (li s)
  rw [li_size] at h
  rw [cutAll_spl, List.length_map, List.getD_eq_getElem?_getD, List.getElem?_map]
  cases hj : (spl c (li s))[j]? with
  | none => show (ByteArray.mk #[]).size + _ ≤ _; have : (ByteArray.mk #[]).size = 0 := rfl; omega
  | some x =>
    have := mem_sum (List.mem_of_getElem? hj)
    show (ofL x).size + _ ≤ _
    have hx : (ofL x).size = x.length := (li_size (ofL x)).symm
    omega
/-- Equal texts. -/
theorem eq_of {s t : ByteArray} (h : (s.toList == t.toList) = true) : s = t := by
  rw [beq_iff_eq, ByteArray.toList_eq, ByteArray.toList_eq] at h
  exact li_inj h
theorem eq_iff (s t : ByteArray) : (s.toList == t.toList) = decide (s = t) := by
  cases h : s.toList == t.toList with
  | true => rw [eq_of h]; simp
  | false =>
    symm
    refine decide_eq_false fun e => ?_
    subst e
    simp at h
theorem size_of {s t : ByteArray} (h : (s.toList == t.toList) = true) : s.size = t.size := by rw [eq_of h]
theorem size_or (s t : ByteArray) : (s.toList == t.toList) = false ∨ ((s.toList == t.toList) = true ∧ s.size = t.size) := by
  cases h : s.toList == t.toList with
  | false => exact .inl rfl
  | true => exact .inr ⟨rfl, size_of h⟩
theorem textS_min (tell : List Int → ByteArray) (r : RefT) : r.d.size + 1 + r.p.size ≤ (textS tell r).size := by
  have hz : ∀ a b : ByteArray, (a ++ b).size = a.size + b.size := fun a b => ByteArray.size_append
  unfold textS
  cases isS r.t [] <;> cases r.b <;> simp only [Bool.not_false, Bool.not_true, cond_true, cond_false, hz, sz1] <;> omega
end Go.Proofs.YtofcjkbgieenlaaDoor.PM

namespace Go.Proofs.YtofcjkbgieenlaaDoor.PM
open Go Go.Proofs
set_option maxRecDepth 100000
set_option linter.unusedVariables false

def rparseX (s : ByteArray) : List Int := bif (tellS (readS s)).toList == s.toList then readS s else zerosL
def rparseE (s : ByteArray) : Int := bif (tellS (readS s)).toList == s.toList then 0 else 10
def rparseG' : Pure
  | [.string s] => some (s.size < 2 ^ 40, .tuple ⟨[.agg ⟨digL (rparseX s)⟩, .int .i64 (rparseE s)]⟩)
  | _ => none
theorem rparseG_eq : rparseG = rparseG' := by
  funext args
  unfold rparseG rparseG'
  split
  · rename_i s
    show some (s.size < 2 ^ 40, rparseV s) = some (s.size < 2 ^ 40, Value.tuple ⟨[.agg ⟨digL (rparseX s)⟩, .int .i64 (rparseE s)]⟩)
    unfold rparseV rparseS rparseX rparseE
    cases (tellS (readS s)).toList == s.toList <;> rfl
  · rename_i h
    first
      | rfl
      | (split
         · exact (h _ rfl).elim
         · rfl)
attribute [irreducible] rparseX rparseE
theorem rparse_ok' : PureOk Tryd.prog 24 rparseG' := rparseG_eq ▸ rparse_ok
/-- A function of one name. -/
def refG (f : RefT → Value) : Pure
  | [.agg ⟨l⟩] => match isRef l with
    | some r => some (RefOk r, f r)
    | none => none
  | _ => none
def rtextS (r : RefT) : ByteArray := bif rcheckS r != 0 then ⟨#[]⟩ else textS tellS r
theorem rtext_ok : PureOk Tryd.prog 12 (refG fun r => .string (rtextS r)) := by
  refine .of_run (call := callOf [(16, pureS rcheckG), (27, pureS textG)]) (hint := hints 12) (tb := noTab) hm (callOf_cons rcheck_ok.spec (callOf_cons text_ok.spec callOf_nil)) Tryd.func12 (by kernel_rfl) rfl (by kernel_rfl) (by repeat' first | exact trivial | constructor |  (intro _ h; cases h)) fun args c r h => ?_
  unfold refG at h
  split at h
  · rename_i l
    split at h
    · rename_i r hr
      cases h
      refine ⟨by show (plainL l && true) = true; rw [plain_ref hr]; rfl, fun hs => ⟨rfl, 1, fun K hK => ?_⟩⟩
      obtain ⟨h1, h2⟩ := isRef_some hr
      rw [h1]
      have hd := decI_digL h2
      have he : RefT.mk r.d r.p r.t (decI (digL r.x)) r.b = r := by rw [hd]
      refine to (R := (RefOk (RefT.mk r.d r.p r.t (decI (digL r.x)) r.b)) ∧ (bcase ((rcheckS (RefT.mk r.d r.p r.t (decI (digL r.x)) r.b)) != (0 : Int)) (K (.string (ByteArray.mk #[])) []) ((RefOk (RefT.mk r.d r.p r.t (decI (digL r.x)) r.b)) ∧ (K (.string (textS tellS (RefT.mk r.d r.p r.t (decI (digL r.x)) r.b))) [])))) (by kernel_rfl) ?_
      simp only [he]
      clear h1 hr hd he
      ((repeat' first | with_reducible exact trivial | with_reducible refine need_of (by first | first | with_reducible assumption | with_reducible exact pos_of (by assumption) | with_reducible exact pos_of' (by assumption) | omega | (simp only [ByteArray.size_append, sz1, decide_eq_true_eq, *]; omega) | decide | (simp only [Bool.and_true, Bool.and_eq_true, decide_eq_true_eq, ByteArray.size_extract, ByteArray.size_append, sz1, Int.toNat_natCast, List.getD_eq_getElem?_getD, beq_iff_eq, decide_eq_false_iff_not] at *; omega) | ((repeat' constructor) <;> first | rfl | first | with_reducible assumption | with_reducible exact pos_of (by assumption) | with_reducible exact pos_of' (by assumption) | omega | (simp only [ByteArray.size_append, sz1, decide_eq_true_eq, *]; omega) | decide | (simp only [Bool.and_true, Bool.and_eq_true, decide_eq_true_eq, ByteArray.size_extract, ByteArray.size_append, sz1, Int.toNat_natCast, List.getD_eq_getElem?_getD, beq_iff_eq, decide_eq_false_iff_not] at *; omega))) ?_ | with_reducible refine And.intro (by first | first | with_reducible assumption | with_reducible exact pos_of (by assumption) | with_reducible exact pos_of' (by assumption) | omega | (simp only [ByteArray.size_append, sz1, decide_eq_true_eq, *]; omega) | decide | (simp only [Bool.and_true, Bool.and_eq_true, decide_eq_true_eq, ByteArray.size_extract, ByteArray.size_append, sz1, Int.toNat_natCast, List.getD_eq_getElem?_getD, beq_iff_eq, decide_eq_false_iff_not] at *; omega) | ((repeat' constructor) <;> first | rfl | first | with_reducible assumption | with_reducible exact pos_of (by assumption) | with_reducible exact pos_of' (by assumption) | omega | (simp only [ByteArray.size_append, sz1, decide_eq_true_eq, *]; omega) | decide | (simp only [Bool.and_true, Bool.and_eq_true, decide_eq_true_eq, ByteArray.size_extract, ByteArray.size_append, sz1, Int.toNat_natCast, List.getD_eq_getElem?_getD, beq_iff_eq, decide_eq_false_iff_not] at *; omega))) ?_ | with_reducible refine bcase_not ?_ | with_reducible refine bcase_t (by assumption) ?_ | with_reducible refine bcase_f (by assumption) ?_ | with_reducible refine bcase_of (fun h => ?_) (fun h => ?_)) <;> (have := hK []; simp only [isS, rtextS, *, Int.toNat_natCast, cond_true, cond_false, Bool.not_true, Bool.not_false, Bool.and_true, Bool.and_false, Bool.true_and, Bool.false_and, Bool.or_true, Bool.or_false, Bool.true_or, Bool.false_or] at this ⊢; exact this))
    · cases h
  · cases h
def untag (r : RefT) : RefT := bif isS r.t [108, 97, 116, 101, 115, 116] && !r.b then ⟨r.d, r.p, ⟨#[]⟩, r.x, r.b⟩ else r
def rshortS (r : RefT) : ByteArray :=
  bif rcheckS r != 0 then ⟨#[]⟩ else
  let s := textS tellS (untag r)
  bif !isS r.d [100, 111, 99, 107, 101, 114, 46, 105, 111] then s else
  bif decide (((cutAll r.p 47).length : Int) == 2) && isS ((cutAll r.p 47).getD 0 ⟨#[]⟩) [108, 105, 98, 114, 97, 114, 121] then s.extract 18 s.size else
  bif !isS (frontS r.p) [] then s else s.extract 10 s.size
theorem rshort_ok : PureOk Tryd.prog 14 (refG fun r => .string (rshortS r)) := by
  refine .of_run (call := callOf [(16, pureS rcheckG), (27, pureS textG), (23, memS cutG), (25, pureS frontG)]) (hint := hints 14) (tb := noTab) hm (callOf_cons rcheck_ok.spec (callOf_cons text_ok.spec (callOf_cons cut_ok.spec (callOf_cons front_ok.spec callOf_nil)))) Tryd.func14 (by kernel_rfl) rfl (by kernel_rfl) (by repeat' first | exact trivial | constructor |  (intro _ h; cases h)) fun args c r h => ?_
  unfold refG at h
  split at h
  · rename_i l
    split at h
    · rename_i r hr
      cases h
      refine ⟨by show (plainL l && true) = true; rw [plain_ref hr]; rfl, fun hs => ⟨rfl, 1, fun K hK => ?_⟩⟩
      obtain ⟨h1, h2⟩ := isRef_some hr
      rw [h1]
      have hd := decI_digL h2
      have he : RefT.mk r.d r.p r.t (decI (digL r.x)) r.b = r := by rw [hd]
      refine to (R := (RefOk (RefT.mk r.d r.p r.t (decI (digL r.x)) r.b)) ∧ (bcase ((rcheckS (RefT.mk r.d r.p r.t (decI (digL r.x)) r.b)) != (0 : Int)) (K (.string (ByteArray.mk #[])) []) (bcase (r.t.toList == (ByteArray.mk #[108, 97, 116, 101, 115, 116]).toList) (bcase (!r.b) ((RefOk (RefT.mk r.d r.p (ByteArray.mk #[]) (decI (digL r.x)) r.b)) ∧ (bcase (!(r.d.toList == (ByteArray.mk #[100, 111, 99, 107, 101, 114, 46, 105, 111]).toList)) (K (.string (textS tellS (RefT.mk r.d r.p (ByteArray.mk #[]) (decI (digL r.x)) r.b))) []) ((r.p.size < 1099511627776) ∧ (bcase ((↑(cutAll r.p (47 : Int)).length : Int) == (2 : Int)) (need (decide ((0 : Int) < (↑(cutAll r.p (47 : Int)).length : Int))) (need ((decide (0 < (cutAll r.p (47 : Int)).length)) && true) (bcase ((ByteArray.toList ((cutAll r.p (47 : Int)).getD 0 (ByteArray.mk #[]))) == (ByteArray.mk #[108, 105, 98, 114, 97, 114, 121]).toList) (need ((decide ((18 : Int) ≤ (↑(textS tellS (RefT.mk r.d r.p (ByteArray.mk #[]) (decI (digL r.x)) r.b)).size : Int))) && (decide ((↑(textS tellS (RefT.mk r.d r.p (ByteArray.mk #[]) (decI (digL r.x)) r.b)).size : Int) ≤ (↑(textS tellS (RefT.mk r.d r.p (ByteArray.mk #[]) (decI (digL r.x)) r.b)).size : Int)))) (K (.string ((textS tellS (RefT.mk r.d r.p (ByteArray.mk #[]) (decI (digL r.x)) r.b)).extract 18 (↑(textS tellS (RefT.mk r.d r.p (ByteArray.mk #[]) (decI (digL r.x)) r.b)).size : Int).toNat)) [])) ((r.p.size < 1099511627776) ∧ (bcase (!((frontS r.p).toList == (ByteArray.mk #[]).toList)) (K (.string (textS tellS (RefT.mk r.d r.p (ByteArray.mk #[]) (decI (digL r.x)) r.b))) []) (need ((decide ((10 : Int) ≤ (↑(textS tellS (RefT.mk r.d r.p (ByteArray.mk #[]) (decI (digL r.x)) r.b)).size : Int))) && (decide ((↑(textS tellS (RefT.mk r.d r.p (ByteArray.mk #[]) (decI (digL r.x)) r.b)).size : Int) ≤ (↑(textS tellS (RefT.mk r.d r.p (ByteArray.mk #[]) (decI (digL r.x)) r.b)).size : Int)))) (K (.string ((textS tellS (RefT.mk r.d r.p (ByteArray.mk #[]) (decI (digL r.x)) r.b)).extract 10 (↑(textS tellS (RefT.mk r.d r.p (ByteArray.mk #[]) (decI (digL r.x)) r.b)).size : Int).toNat)) []))))))) ((r.p.size < 1099511627776) ∧ (bcase (!((frontS r.p).toList == (ByteArray.mk #[]).toList)) (K (.string (textS tellS (RefT.mk r.d r.p (ByteArray.mk #[]) (decI (digL r.x)) r.b))) []) (need ((decide ((10 : Int) ≤ (↑(textS tellS (RefT.mk r.d r.p (ByteArray.mk #[]) (decI (digL r.x)) r.b)).size : Int))) && (decide ((↑(textS tellS (RefT.mk r.d r.p (ByteArray.mk #[]) (decI (digL r.x)) r.b)).size : Int) ≤ (↑(textS tellS (RefT.mk r.d r.p (ByteArray.mk #[]) (decI (digL r.x)) r.b)).size : Int)))) (K (.string ((textS tellS (RefT.mk r.d r.p (ByteArray.mk #[]) (decI (digL r.x)) r.b)).extract 10 (↑(textS tellS (RefT.mk r.d r.p (ByteArray.mk #[]) (decI (digL r.x)) r.b)).size : Int).toNat)) [])))))))) ((RefOk (RefT.mk r.d r.p r.t (decI (digL r.x)) r.b)) ∧ (bcase (!(r.d.toList == (ByteArray.mk #[100, 111, 99, 107, 101, 114, 46, 105, 111]).toList)) (K (.string (textS tellS (RefT.mk r.d r.p r.t (decI (digL r.x)) r.b))) []) ((r.p.size < 1099511627776) ∧ (bcase ((↑(cutAll r.p (47 : Int)).length : Int) == (2 : Int)) (need (decide ((0 : Int) < (↑(cutAll r.p (47 : Int)).length : Int))) (need ((decide (0 < (cutAll r.p (47 : Int)).length)) && true) (bcase ((ByteArray.toList ((cutAll r.p (47 : Int)).getD 0 (ByteArray.mk #[]))) == (ByteArray.mk #[108, 105, 98, 114, 97, 114, 121]).toList) (need ((decide ((18 : Int) ≤ (↑(textS tellS (RefT.mk r.d r.p r.t (decI (digL r.x)) r.b)).size : Int))) && (decide ((↑(textS tellS (RefT.mk r.d r.p r.t (decI (digL r.x)) r.b)).size : Int) ≤ (↑(textS tellS (RefT.mk r.d r.p r.t (decI (digL r.x)) r.b)).size : Int)))) (K (.string ((textS tellS (RefT.mk r.d r.p r.t (decI (digL r.x)) r.b)).extract 18 (↑(textS tellS (RefT.mk r.d r.p r.t (decI (digL r.x)) r.b)).size : Int).toNat)) [])) ((r.p.size < 1099511627776) ∧ (bcase (!((frontS r.p).toList == (ByteArray.mk #[]).toList)) (K (.string (textS tellS (RefT.mk r.d r.p r.t (decI (digL r.x)) r.b))) []) (need ((decide ((10 : Int) ≤ (↑(textS tellS (RefT.mk r.d r.p r.t (decI (digL r.x)) r.b)).size : Int))) && (decide ((↑(textS tellS (RefT.mk r.d r.p r.t (decI (digL r.x)) r.b)).size : Int) ≤ (↑(textS tellS (RefT.mk r.d r.p r.t (decI (digL r.x)) r.b)).size : Int)))) (K (.string ((textS tellS (RefT.mk r.d r.p r.t (decI (digL r.x)) r.b)).extract 10 (↑(textS tellS (RefT.mk r.d r.p r.t (decI (digL r.x)) r.b)).size : Int).toNat)) []))))))) ((r.p.size < 1099511627776) ∧ (bcase (!((frontS r.p).toList == (ByteArray.mk #[]).toList)) (K (.string (textS tellS (RefT.mk r.d r.p r.t (decI (digL r.x)) r.b))) []) (need ((decide ((10 : Int) ≤ (↑(textS tellS (RefT.mk r.d r.p r.t (decI (digL r.x)) r.b)).size : Int))) && (decide ((↑(textS tellS (RefT.mk r.d r.p r.t (decI (digL r.x)) r.b)).size : Int) ≤ (↑(textS tellS (RefT.mk r.d r.p r.t (decI (digL r.x)) r.b)).size : Int)))) (K (.string ((textS tellS (RefT.mk r.d r.p r.t (decI (digL r.x)) r.b)).extract 10 (↑(textS tellS (RefT.mk r.d r.p r.t (decI (digL r.x)) r.b)).size : Int).toNat)) []))))))))) ((RefOk (RefT.mk r.d r.p r.t (decI (digL r.x)) r.b)) ∧ (bcase (!(r.d.toList == (ByteArray.mk #[100, 111, 99, 107, 101, 114, 46, 105, 111]).toList)) (K (.string (textS tellS (RefT.mk r.d r.p r.t (decI (digL r.x)) r.b))) []) ((r.p.size < 1099511627776) ∧ (bcase ((↑(cutAll r.p (47 : Int)).length : Int) == (2 : Int)) (need (decide ((0 : Int) < (↑(cutAll r.p (47 : Int)).length : Int))) (need ((decide (0 < (cutAll r.p (47 : Int)).length)) && true) (bcase ((ByteArray.toList ((cutAll r.p (47 : Int)).getD 0 (ByteArray.mk #[]))) == (ByteArray.mk #[108, 105, 98, 114, 97, 114, 121]).toList) (need ((decide ((18 : Int) ≤ (↑(textS tellS (RefT.mk r.d r.p r.t (decI (digL r.x)) r.b)).size : Int))) && (decide ((↑(textS tellS (RefT.mk r.d r.p r.t (decI (digL r.x)) r.b)).size : Int) ≤ (↑(textS tellS (RefT.mk r.d r.p r.t (decI (digL r.x)) r.b)).size : Int)))) (K (.string ((textS tellS (RefT.mk r.d r.p r.t (decI (digL r.x)) r.b)).extract 18 (↑(textS tellS (RefT.mk r.d r.p r.t (decI (digL r.x)) r.b)).size : Int).toNat)) [])) ((r.p.size < 1099511627776) ∧ (bcase (!((frontS r.p).toList == (ByteArray.mk #[]).toList)) (K (.string (textS tellS (RefT.mk r.d r.p r.t (decI (digL r.x)) r.b))) []) (need ((decide ((10 : Int) ≤ (↑(textS tellS (RefT.mk r.d r.p r.t (decI (digL r.x)) r.b)).size : Int))) && (decide ((↑(textS tellS (RefT.mk r.d r.p r.t (decI (digL r.x)) r.b)).size : Int) ≤ (↑(textS tellS (RefT.mk r.d r.p r.t (decI (digL r.x)) r.b)).size : Int)))) (K (.string ((textS tellS (RefT.mk r.d r.p r.t (decI (digL r.x)) r.b)).extract 10 (↑(textS tellS (RefT.mk r.d r.p r.t (decI (digL r.x)) r.b)).size : Int).toNat)) []))))))) ((r.p.size < 1099511627776) ∧ (bcase (!((frontS r.p).toList == (ByteArray.mk #[]).toList)) (K (.string (textS tellS (RefT.mk r.d r.p r.t (decI (digL r.x)) r.b))) []) (need ((decide ((10 : Int) ≤ (↑(textS tellS (RefT.mk r.d r.p r.t (decI (digL r.x)) r.b)).size : Int))) && (decide ((↑(textS tellS (RefT.mk r.d r.p r.t (decI (digL r.x)) r.b)).size : Int) ≤ (↑(textS tellS (RefT.mk r.d r.p r.t (decI (digL r.x)) r.b)).size : Int)))) (K (.string ((textS tellS (RefT.mk r.d r.p r.t (decI (digL r.x)) r.b)).extract 10 (↑(textS tellS (RefT.mk r.d r.p r.t (decI (digL r.x)) r.b)).size : Int).toNat)) []))))))))))) (by kernel_rfl) ?_
      have hr1 : ((cutAll r.p 47).getD 0 (ByteArray.mk #[])).size + (cutAll r.p 47).length ≤ r.p.size + 1 := cutAll_room r.p 47 0
      obtain ⟨k1, k2, k3, k4, k5⟩ := hs
      have hs : RefOk r := ⟨k1, k2, k3, k4, k5⟩
      have he' : RefT.mk r.d r.p r.t r.x r.b = r := rfl
      have hl1 := cutAll_len r.p 47
      have hz1 := textS_min tellS r
      have hz2 := textS_min tellS ⟨r.d, r.p, ⟨#[]⟩, r.x, r.b⟩
      have k6 : ((⟨#[]⟩ : ByteArray)).size < 2 ^ 30 := by decide
      dsimp only at hz1 hz2
      simp only [he, hd, he']
      clear h1 hr hd he he'
      have hq1 := size_or r.d (ByteArray.mk #[100, 111, 99, 107, 101, 114, 46, 105, 111])
      have hq2 := size_or ((cutAll r.p 47).getD 0 (ByteArray.mk #[])) (ByteArray.mk #[108, 105, 98, 114, 97, 114, 121])
      rw [show (ByteArray.mk #[100, 111, 99, 107, 101, 114, 46, 105, 111]).size = 9 from rfl] at hq1
      rw [show (ByteArray.mk #[108, 105, 98, 114, 97, 114, 121]).size = 7 from rfl] at hq2
      rcases hq1 with hq1 | ⟨hq1, hq3⟩
      · ((repeat' first | with_reducible exact trivial | with_reducible refine need_of (by first | first | with_reducible assumption | with_reducible exact pos_of (by assumption) | with_reducible exact pos_of' (by assumption) | omega | (simp only [ByteArray.size_append, sz1, decide_eq_true_eq, *]; omega) | decide | (simp only [Bool.and_true, Bool.and_eq_true, decide_eq_true_eq, ByteArray.size_extract, ByteArray.size_append, sz1, Int.toNat_natCast, List.getD_eq_getElem?_getD, beq_iff_eq, decide_eq_false_iff_not] at *; omega) | ((repeat' constructor) <;> first | rfl | first | with_reducible assumption | with_reducible exact pos_of (by assumption) | with_reducible exact pos_of' (by assumption) | omega | (simp only [ByteArray.size_append, sz1, decide_eq_true_eq, *]; omega) | decide | (simp only [Bool.and_true, Bool.and_eq_true, decide_eq_true_eq, ByteArray.size_extract, ByteArray.size_append, sz1, Int.toNat_natCast, List.getD_eq_getElem?_getD, beq_iff_eq, decide_eq_false_iff_not] at *; omega))) ?_ | with_reducible refine And.intro (by first | first | with_reducible assumption | with_reducible exact pos_of (by assumption) | with_reducible exact pos_of' (by assumption) | omega | (simp only [ByteArray.size_append, sz1, decide_eq_true_eq, *]; omega) | decide | (simp only [Bool.and_true, Bool.and_eq_true, decide_eq_true_eq, ByteArray.size_extract, ByteArray.size_append, sz1, Int.toNat_natCast, List.getD_eq_getElem?_getD, beq_iff_eq, decide_eq_false_iff_not] at *; omega) | ((repeat' constructor) <;> first | rfl | first | with_reducible assumption | with_reducible exact pos_of (by assumption) | with_reducible exact pos_of' (by assumption) | omega | (simp only [ByteArray.size_append, sz1, decide_eq_true_eq, *]; omega) | decide | (simp only [Bool.and_true, Bool.and_eq_true, decide_eq_true_eq, ByteArray.size_extract, ByteArray.size_append, sz1, Int.toNat_natCast, List.getD_eq_getElem?_getD, beq_iff_eq, decide_eq_false_iff_not] at *; omega))) ?_ | with_reducible refine bcase_not ?_ | with_reducible refine bcase_t (by assumption) ?_ | with_reducible refine bcase_f (by assumption) ?_ | with_reducible refine bcase_of (fun h => ?_) (fun h => ?_)) <;> (have := hK []; simp only [isS, rshortS, untag, *, Int.toNat_natCast, cond_true, cond_false, Bool.not_true, Bool.not_false, Bool.and_true, Bool.and_false, Bool.true_and, Bool.false_and, Bool.or_true, Bool.or_false, Bool.true_or, Bool.false_or] at this ⊢; exact this))
      · rcases hq2 with hq2 | ⟨hq2, hq4⟩
        · ((repeat' first | with_reducible exact trivial | with_reducible refine need_of (by first | first | with_reducible assumption | with_reducible exact pos_of (by assumption) | with_reducible exact pos_of' (by assumption) | omega | (simp only [ByteArray.size_append, sz1, decide_eq_true_eq, *]; omega) | decide | (simp only [Bool.and_true, Bool.and_eq_true, decide_eq_true_eq, ByteArray.size_extract, ByteArray.size_append, sz1, Int.toNat_natCast, List.getD_eq_getElem?_getD, beq_iff_eq, decide_eq_false_iff_not] at *; omega) | ((repeat' constructor) <;> first | rfl | first | with_reducible assumption | with_reducible exact pos_of (by assumption) | with_reducible exact pos_of' (by assumption) | omega | (simp only [ByteArray.size_append, sz1, decide_eq_true_eq, *]; omega) | decide | (simp only [Bool.and_true, Bool.and_eq_true, decide_eq_true_eq, ByteArray.size_extract, ByteArray.size_append, sz1, Int.toNat_natCast, List.getD_eq_getElem?_getD, beq_iff_eq, decide_eq_false_iff_not] at *; omega))) ?_ | with_reducible refine And.intro (by first | first | with_reducible assumption | with_reducible exact pos_of (by assumption) | with_reducible exact pos_of' (by assumption) | omega | (simp only [ByteArray.size_append, sz1, decide_eq_true_eq, *]; omega) | decide | (simp only [Bool.and_true, Bool.and_eq_true, decide_eq_true_eq, ByteArray.size_extract, ByteArray.size_append, sz1, Int.toNat_natCast, List.getD_eq_getElem?_getD, beq_iff_eq, decide_eq_false_iff_not] at *; omega) | ((repeat' constructor) <;> first | rfl | first | with_reducible assumption | with_reducible exact pos_of (by assumption) | with_reducible exact pos_of' (by assumption) | omega | (simp only [ByteArray.size_append, sz1, decide_eq_true_eq, *]; omega) | decide | (simp only [Bool.and_true, Bool.and_eq_true, decide_eq_true_eq, ByteArray.size_extract, ByteArray.size_append, sz1, Int.toNat_natCast, List.getD_eq_getElem?_getD, beq_iff_eq, decide_eq_false_iff_not] at *; omega))) ?_ | with_reducible refine bcase_not ?_ | with_reducible refine bcase_t (by assumption) ?_ | with_reducible refine bcase_f (by assumption) ?_ | with_reducible refine bcase_of (fun h => ?_) (fun h => ?_)) <;> (have := hK []; simp only [isS, rshortS, untag, *, Int.toNat_natCast, cond_true, cond_false, Bool.not_true, Bool.not_false, Bool.and_true, Bool.and_false, Bool.true_and, Bool.false_and, Bool.or_true, Bool.or_false, Bool.true_or, Bool.false_or] at this ⊢; exact this))
        · ((repeat' first | with_reducible exact trivial | with_reducible refine need_of (by first | first | with_reducible assumption | with_reducible exact pos_of (by assumption) | with_reducible exact pos_of' (by assumption) | omega | (simp only [ByteArray.size_append, sz1, decide_eq_true_eq, *]; omega) | decide | (simp only [Bool.and_true, Bool.and_eq_true, decide_eq_true_eq, ByteArray.size_extract, ByteArray.size_append, sz1, Int.toNat_natCast, List.getD_eq_getElem?_getD, beq_iff_eq, decide_eq_false_iff_not] at *; omega) | ((repeat' constructor) <;> first | rfl | first | with_reducible assumption | with_reducible exact pos_of (by assumption) | with_reducible exact pos_of' (by assumption) | omega | (simp only [ByteArray.size_append, sz1, decide_eq_true_eq, *]; omega) | decide | (simp only [Bool.and_true, Bool.and_eq_true, decide_eq_true_eq, ByteArray.size_extract, ByteArray.size_append, sz1, Int.toNat_natCast, List.getD_eq_getElem?_getD, beq_iff_eq, decide_eq_false_iff_not] at *; omega))) ?_ | with_reducible refine And.intro (by first | first | with_reducible assumption | with_reducible exact pos_of (by assumption) | with_reducible exact pos_of' (by assumption) | omega | (simp only [ByteArray.size_append, sz1, decide_eq_true_eq, *]; omega) | decide | (simp only [Bool.and_true, Bool.and_eq_true, decide_eq_true_eq, ByteArray.size_extract, ByteArray.size_append, sz1, Int.toNat_natCast, List.getD_eq_getElem?_getD, beq_iff_eq, decide_eq_false_iff_not] at *; omega) | ((repeat' constructor) <;> first | rfl | first | with_reducible assumption | with_reducible exact pos_of (by assumption) | with_reducible exact pos_of' (by assumption) | omega | (simp only [ByteArray.size_append, sz1, decide_eq_true_eq, *]; omega) | decide | (simp only [Bool.and_true, Bool.and_eq_true, decide_eq_true_eq, ByteArray.size_extract, ByteArray.size_append, sz1, Int.toNat_natCast, List.getD_eq_getElem?_getD, beq_iff_eq, decide_eq_false_iff_not] at *; omega))) ?_ | with_reducible refine bcase_not ?_ | with_reducible refine bcase_t (by assumption) ?_ | with_reducible refine bcase_f (by assumption) ?_ | with_reducible refine bcase_of (fun h => ?_) (fun h => ?_)) <;> (have := hK []; simp only [isS, rshortS, untag, *, Int.toNat_natCast, cond_true, cond_false, Bool.not_true, Bool.not_false, Bool.and_true, Bool.and_false, Bool.true_and, Bool.false_and, Bool.or_true, Bool.or_false, Bool.true_or, Bool.false_or] at this ⊢; exact this))
    · cases h
  · cases h
end Go.Proofs.YtofcjkbgieenlaaDoor.PM

namespace Go.Proofs.YtofcjkbgieenlaaDoor.PM
open Go Go.Proofs
set_option maxRecDepth 100000
set_option linter.unusedVariables false
set_option linter.unusedSimpArgs false

def zeroR : RefT := ⟨⟨#[]⟩, ⟨#[]⟩, ⟨#[]⟩, zerosL, false⟩
abbrev RefT.cells (r : RefT) : List Value := refL r.d r.p r.t r.x r.b
def refV (r : RefT × Int) : Value := .tuple ⟨[.agg ⟨r.1.cells⟩, .int .i64 r.2]⟩
def rend (r : RefT) : RefT × Int := bif rcheckS r != 0 then (zeroR, 10) else (r, 0)
def rfin (d p t : ByteArray) (x : List Int) (b : Bool) : RefT × Int :=
  bif isS d [100, 111, 99, 107, 101, 114, 46, 105, 111] && ((cutAll p 47).length : Int) == 1 then rend ⟨d, (ByteArray.mk #[108, 105, 98, 114, 97, 114, 121, 47]) ++ p, t, x, b⟩ else rend ⟨d, p, t, x, b⟩
def rdom (d p t : ByteArray) (x : List Int) (b : Bool) : RefT × Int :=
  bif isS d [] || isS d [105, 110, 100, 101, 120, 46, 100, 111, 99, 107, 101, 114, 46, 105, 111] then rfin (ByteArray.mk #[100, 111, 99, 107, 101, 114, 46, 105, 111]) p t x b else rfin d p t x b
def rmid (name t : ByteArray) (x : List Int) (b : Bool) : RefT × Int :=
  bif !isS (frontS name) [] then rdom (frontS name) (name.extract ((frontS name).size + 1) name.size) t x b else rdom (frontS name) name t x b
def lastOf (name : ByteArray) : ByteArray := (cutAll name 58).getD ((cutAll name 58).length - 1) ⟨#[]⟩
def rtag (name : ByteArray) (x : List Int) (b : Bool) : RefT × Int :=
  bif decide (((cutAll name 58).length : Int) > 1) && ((cutAll (lastOf name) 47).length : Int) == 1 then
    bif isS (lastOf name) [] then (zeroR, 10) else rmid (name.extract 0 (name.size - (lastOf name).size - 1)) (lastOf name) x b
  else bif !b then rmid name (ByteArray.mk #[108, 97, 116, 101, 115, 116]) x b else rmid name ⟨#[]⟩ x b
def nameOf (s : ByteArray) : ByteArray := (cutAll s 64).getD 0 ⟨#[]⟩
def pinOf (s : ByteArray) : ByteArray := s.extract ((nameOf s).size + 1) s.size
def rparse12 (s : ByteArray) : RefT × Int :=
  bif decide ((s.size : Int) > 200) then (zeroR, 3) else
  bif decide (((nameOf s).size : Int) < s.size) then
    bif rparseE (pinOf s) != 0 then (zeroR, 10) else rtag (nameOf s) (rparseX (pinOf s)) true
  else rtag (nameOf s) zerosL false
abbrev pt (n : Nat) : Value := .pointer (some ⟨n, 0, some 0⟩)
abbrev rowR (l : List Value) : VB := .row raw 36 [l] .own
/-- What Parse leaves. -/
def RetP (K : Kont) (r : RefT × Int) : Prop := ∀ l, K .ret [(2, pt 0), (3, .int .i64 r.2)] [rowR r.1.cells, rowR l]
def J25 : LSpec
  | [(2, .pointer (some ⟨0, 0, some 0⟩)), (4, .pointer (some ⟨1, 0, some 0⟩))], H, K => ∃ r : RefT, (H = [rowR zeroR.cells, rowR r.cells] ∧ RefOk r) ∧ RetP K (rend r)
  | _, _, _ => False
theorem J25_ok : CodeOk Tryd.prog Tryd.f10.ntmps (jn Tryd.f10 25) J25 := by
  refine join_ok (call := callOf [(16, pureS rcheckG)]) (hint := hints 10) (tb := noTab) hm (callOf_cons rcheck_ok.spec callOf_nil) (by kernel_rfl) (by repeat' first | exact trivial | constructor |  (intro _ h; cases h)) fun fr H K h => ?_
  unfold J25 at h
  split at h
  · obtain ⟨r, ⟨rfl, hr⟩, hK⟩ := h
    refine ⟨1, ?_⟩
    have hd := decI_digL hr.n
    have he : RefT.mk r.d r.p r.t (decI (digL r.x)) r.b = r := by rw [hd]
    refine to (R := (RefOk (RefT.mk r.d r.p r.t (decI (digL r.x)) r.b)) ∧ (bcase ((rcheckS (RefT.mk r.d r.p r.t (decI (digL r.x)) r.b)) != (0 : Int)) (K .ret [(2, (.pointer (some (Addr.mk 0 0 (some 0))))), (3, (.int .i64 (10 : Int)))] [(VB.row raw 36 [(refL (ByteArray.mk #[]) (ByteArray.mk #[]) (ByteArray.mk #[]) zerosL false)] .own), (VB.row raw 36 [(refL r.d r.p r.t r.x r.b)] .own)]) (K .ret [(2, (.pointer (some (Addr.mk 0 0 (some 0))))), (3, (.int .i64 (0 : Int)))] [(VB.row raw 36 [(refL r.d r.p r.t r.x r.b)] .own), (VB.row raw 36 [(refL r.d r.p r.t r.x r.b)] .own)]))) (by kernel_rfl) ?_
    rw [he]
    have := hK r.cells
    unfold rend at this
    refine ⟨hr, bcase_of (fun h => ?_) (fun h => ?_)⟩
    · rw [h] at this
      exact this
    · rw [h] at this
      exact this
  · exact h.elim
def J23 : LSpec
  | [(2, .pointer (some ⟨0, 0, some 0⟩)), (4, .pointer (some ⟨1, 0, some 0⟩))], H, K => ∃ r : RefT, (H = [rowR zeroR.cells, rowR r.cells] ∧ RefOk r ∧ r.p.size < 2 ^ 29) ∧ RetP K (rfin r.d r.p r.t r.x r.b)
  | _, _, _ => False
def tab25 : Tab := ⟨fun _ => none, fun | 25 => some J25 | _ => none⟩
theorem sz8 : (ByteArray.mk #[100, 111, 99, 107, 101, 114, 46, 105, 111]).size < 2 ^ 30 := by decide
theorem J23_ok : CodeOk Tryd.prog Tryd.f10.ntmps (jn Tryd.f10 23) J23 := by
  refine join_ok (call := callOf [(23, memS cutG)]) (hint := hints 10) (tb := tab25) hm (callOf_cons cut_ok.spec callOf_nil) (by kernel_rfl) (by repeat' first | exact trivial | constructor | (intro _ h; cases h; exact J25_ok) | (intro _ h; cases h)) fun fr H K h => ?_
  unfold J23 at h
  split at h
  · obtain ⟨r, ⟨rfl, hr, hp⟩, hK⟩ := h
    obtain ⟨k1, k2, k3, k4, k5⟩ := hr
    refine ⟨1, ?_⟩
    have hz : ∀ a b : ByteArray, (a ++ b).size = a.size + b.size := fun a b => ByteArray.size_append
    have h8 : (ByteArray.mk #[108, 105, 98, 114, 97, 114, 121, 47]).size = 8 := rfl
    refine to (R := bcase (r.d.toList == (ByteArray.mk #[100, 111, 99, 107, 101, 114, 46, 105, 111]).toList) ((r.p.size < 1099511627776) ∧ (bcase ((↑(cutAll r.p (47 : Int)).length : Int) == (1 : Int)) (need (decide ((8 + r.p.size) < 9223372036854775808)) (∃ (r_1 : RefT), ((([(VB.row raw 36 [(refL zeroR.d zeroR.p zeroR.t zeroR.x false)] .own), (VB.row raw 36 [(refL r.d ((ByteArray.mk #[108, 105, 98, 114, 97, 114, 121, 47]) ++ r.p) r.t r.x r.b)] .own)] = [(VB.row raw 36 [(refL zeroR.d zeroR.p zeroR.t zeroR.x false)] .own), (VB.row raw 36 [(refL r_1.d r_1.p r_1.t r_1.x r_1.b)] .own)]) ∧ (RefOk r_1)) ∧ (∀ (l : (List Value)), (K .ret [(2, (.pointer (some (Addr.mk 0 0 (some 0))))), (3, (.int .i64 (rend r_1).snd))] [(VB.row raw 36 [(refL (rend r_1).fst.d (rend r_1).fst.p (rend r_1).fst.t (rend r_1).fst.x (rend r_1).fst.b)] .own), (VB.row raw 36 [l] .own)]))))) (∃ (r_1 : RefT), ((([(VB.row raw 36 [(refL zeroR.d zeroR.p zeroR.t zeroR.x false)] .own), (VB.row raw 36 [(refL r.d r.p r.t r.x r.b)] .own)] = [(VB.row raw 36 [(refL zeroR.d zeroR.p zeroR.t zeroR.x false)] .own), (VB.row raw 36 [(refL r_1.d r_1.p r_1.t r_1.x r_1.b)] .own)]) ∧ (RefOk r_1)) ∧ (∀ (l : (List Value)), (K .ret [(2, (.pointer (some (Addr.mk 0 0 (some 0))))), (3, (.int .i64 (rend r_1).snd))] [(VB.row raw 36 [(refL (rend r_1).fst.d (rend r_1).fst.p (rend r_1).fst.t (rend r_1).fst.x (rend r_1).fst.b)] .own), (VB.row raw 36 [l] .own)])))))) (∃ (r_1 : RefT), ((([(VB.row raw 36 [(refL zeroR.d zeroR.p zeroR.t zeroR.x false)] .own), (VB.row raw 36 [(refL r.d r.p r.t r.x r.b)] .own)] = [(VB.row raw 36 [(refL zeroR.d zeroR.p zeroR.t zeroR.x false)] .own), (VB.row raw 36 [(refL r_1.d r_1.p r_1.t r_1.x r_1.b)] .own)]) ∧ (RefOk r_1)) ∧ (∀ (l : (List Value)), (K .ret [(2, (.pointer (some (Addr.mk 0 0 (some 0))))), (3, (.int .i64 (rend r_1).snd))] [(VB.row raw 36 [(refL (rend r_1).fst.d (rend r_1).fst.p (rend r_1).fst.t (rend r_1).fst.x (rend r_1).fst.b)] .own), (VB.row raw 36 [l] .own)]))))) (by kernel_rfl) ?_
    simp only [isS, rfin] at hK
    repeat' first | with_reducible exact trivial | with_reducible refine need_of (by first | first | with_reducible assumption | with_reducible exact pos_of (by assumption) | with_reducible exact pos_of' (by assumption) | omega | (simp only [ByteArray.size_append, sz1, decide_eq_true_eq, *]; omega) | decide | (simp only [Bool.and_true, Bool.and_eq_true, decide_eq_true_eq, ByteArray.size_extract, ByteArray.size_append, sz1, Int.toNat_natCast, List.getD_eq_getElem?_getD, beq_iff_eq, decide_eq_false_iff_not] at *; omega) | ((repeat' constructor) <;> first | rfl | first | with_reducible assumption | with_reducible exact pos_of (by assumption) | with_reducible exact pos_of' (by assumption) | omega | (simp only [ByteArray.size_append, sz1, decide_eq_true_eq, *]; omega) | decide | (simp only [Bool.and_true, Bool.and_eq_true, decide_eq_true_eq, ByteArray.size_extract, ByteArray.size_append, sz1, Int.toNat_natCast, List.getD_eq_getElem?_getD, beq_iff_eq, decide_eq_false_iff_not] at *; omega))) ?_ | with_reducible refine And.intro (by first | first | with_reducible assumption | with_reducible exact pos_of (by assumption) | with_reducible exact pos_of' (by assumption) | omega | (simp only [ByteArray.size_append, sz1, decide_eq_true_eq, *]; omega) | decide | (simp only [Bool.and_true, Bool.and_eq_true, decide_eq_true_eq, ByteArray.size_extract, ByteArray.size_append, sz1, Int.toNat_natCast, List.getD_eq_getElem?_getD, beq_iff_eq, decide_eq_false_iff_not] at *; omega) | ((repeat' constructor) <;> first | rfl | first | with_reducible assumption | with_reducible exact pos_of (by assumption) | with_reducible exact pos_of' (by assumption) | omega | (simp only [ByteArray.size_append, sz1, decide_eq_true_eq, *]; omega) | decide | (simp only [Bool.and_true, Bool.and_eq_true, decide_eq_true_eq, ByteArray.size_extract, ByteArray.size_append, sz1, Int.toNat_natCast, List.getD_eq_getElem?_getD, beq_iff_eq, decide_eq_false_iff_not] at *; omega))) ?_ | with_reducible refine bcase_not ?_ | with_reducible refine bcase_t (by assumption) ?_ | with_reducible refine bcase_f (by assumption) ?_ | (with_reducible refine bcase_of (fun hx => ?_) (fun hx => ?_) <;> try simp only [hx, bcase_tt, bcase_ff, Int.toNat_natCast, Bool.not_true, Bool.not_false, cond_true, cond_false, Bool.and_true, Bool.and_false, Bool.true_and, Bool.false_and, Bool.or_true, Bool.or_false, Bool.true_or, Bool.false_or] at hK)
    all_goals refine ⟨⟨_, _, _, _, _⟩, ⟨rfl, ?_⟩, hK⟩
    all_goals (constructor <;> dsimp only <;> first | assumption | (rw [hz, h8]; omega))
  · exact h.elim
def J21 : LSpec
  | [(2, .pointer (some ⟨0, 0, some 0⟩)), (4, .pointer (some ⟨1, 0, some 0⟩))], H, K => ∃ r : RefT, (H = [rowR zeroR.cells, rowR r.cells] ∧ RefOk r ∧ r.p.size < 2 ^ 29) ∧ RetP K (rdom r.d r.p r.t r.x r.b)
  | _, _, _ => False
def tab23j : Tab := ⟨fun _ => none, fun | 23 => some J23 | _ => none⟩
theorem J21_ok : CodeOk Tryd.prog Tryd.f10.ntmps (jn Tryd.f10 21) J21 := by
  refine join_ok (call := callOf [(23, memS cutG)]) (hint := hints 10) (tb := tab23j) hm (callOf_cons cut_ok.spec callOf_nil) (by kernel_rfl) (by repeat' first | exact trivial | constructor | (intro _ h; cases h; exact J23_ok) | (intro _ h; cases h)) fun fr H K h => ?_
  unfold J21 at h
  split at h
  · obtain ⟨r, ⟨rfl, hr, hp⟩, hK⟩ := h
    obtain ⟨k1, k2, k3, k4, k5⟩ := hr
    refine ⟨1, ?_⟩
    refine to (R := bcase (r.d.toList == (ByteArray.mk #[]).toList) (∃ (r_1 : RefT), ((([(VB.row raw 36 [(refL zeroR.d zeroR.p zeroR.t zeroR.x false)] .own), (VB.row raw 36 [(refL (ByteArray.mk #[100, 111, 99, 107, 101, 114, 46, 105, 111]) r.p r.t r.x r.b)] .own)] = [(VB.row raw 36 [(refL zeroR.d zeroR.p zeroR.t zeroR.x false)] .own), (VB.row raw 36 [(refL r_1.d r_1.p r_1.t r_1.x r_1.b)] .own)]) ∧ ((RefOk r_1) ∧ (r_1.p.size < 536870912))) ∧ (∀ (l : (List Value)), (K .ret [(2, (.pointer (some (Addr.mk 0 0 (some 0))))), (3, (.int .i64 (rfin r_1.d r_1.p r_1.t r_1.x r_1.b).snd))] [(VB.row raw 36 [(refL (rfin r_1.d r_1.p r_1.t r_1.x r_1.b).fst.d (rfin r_1.d r_1.p r_1.t r_1.x r_1.b).fst.p (rfin r_1.d r_1.p r_1.t r_1.x r_1.b).fst.t (rfin r_1.d r_1.p r_1.t r_1.x r_1.b).fst.x (rfin r_1.d r_1.p r_1.t r_1.x r_1.b).fst.b)] .own), (VB.row raw 36 [l] .own)])))) (bcase (r.d.toList == (ByteArray.mk #[105, 110, 100, 101, 120, 46, 100, 111, 99, 107, 101, 114, 46, 105, 111]).toList) (∃ (r_1 : RefT), ((([(VB.row raw 36 [(refL zeroR.d zeroR.p zeroR.t zeroR.x false)] .own), (VB.row raw 36 [(refL (ByteArray.mk #[100, 111, 99, 107, 101, 114, 46, 105, 111]) r.p r.t r.x r.b)] .own)] = [(VB.row raw 36 [(refL zeroR.d zeroR.p zeroR.t zeroR.x false)] .own), (VB.row raw 36 [(refL r_1.d r_1.p r_1.t r_1.x r_1.b)] .own)]) ∧ ((RefOk r_1) ∧ (r_1.p.size < 536870912))) ∧ (∀ (l : (List Value)), (K .ret [(2, (.pointer (some (Addr.mk 0 0 (some 0))))), (3, (.int .i64 (rfin r_1.d r_1.p r_1.t r_1.x r_1.b).snd))] [(VB.row raw 36 [(refL (rfin r_1.d r_1.p r_1.t r_1.x r_1.b).fst.d (rfin r_1.d r_1.p r_1.t r_1.x r_1.b).fst.p (rfin r_1.d r_1.p r_1.t r_1.x r_1.b).fst.t (rfin r_1.d r_1.p r_1.t r_1.x r_1.b).fst.x (rfin r_1.d r_1.p r_1.t r_1.x r_1.b).fst.b)] .own), (VB.row raw 36 [l] .own)])))) (∃ (r_1 : RefT), ((([(VB.row raw 36 [(refL zeroR.d zeroR.p zeroR.t zeroR.x false)] .own), (VB.row raw 36 [(refL r.d r.p r.t r.x r.b)] .own)] = [(VB.row raw 36 [(refL zeroR.d zeroR.p zeroR.t zeroR.x false)] .own), (VB.row raw 36 [(refL r_1.d r_1.p r_1.t r_1.x r_1.b)] .own)]) ∧ ((RefOk r_1) ∧ (r_1.p.size < 536870912))) ∧ (∀ (l : (List Value)), (K .ret [(2, (.pointer (some (Addr.mk 0 0 (some 0))))), (3, (.int .i64 (rfin r_1.d r_1.p r_1.t r_1.x r_1.b).snd))] [(VB.row raw 36 [(refL (rfin r_1.d r_1.p r_1.t r_1.x r_1.b).fst.d (rfin r_1.d r_1.p r_1.t r_1.x r_1.b).fst.p (rfin r_1.d r_1.p r_1.t r_1.x r_1.b).fst.t (rfin r_1.d r_1.p r_1.t r_1.x r_1.b).fst.x (rfin r_1.d r_1.p r_1.t r_1.x r_1.b).fst.b)] .own), (VB.row raw 36 [l] .own)])))))) (by kernel_rfl) ?_
    simp only [isS, rdom] at hK
    repeat' first | with_reducible exact trivial | with_reducible refine need_of (by first | first | with_reducible assumption | with_reducible exact pos_of (by assumption) | with_reducible exact pos_of' (by assumption) | omega | (simp only [ByteArray.size_append, sz1, decide_eq_true_eq, *]; omega) | decide | (simp only [Bool.and_true, Bool.and_eq_true, decide_eq_true_eq, ByteArray.size_extract, ByteArray.size_append, sz1, Int.toNat_natCast, List.getD_eq_getElem?_getD, beq_iff_eq, decide_eq_false_iff_not] at *; omega) | ((repeat' constructor) <;> first | rfl | first | with_reducible assumption | with_reducible exact pos_of (by assumption) | with_reducible exact pos_of' (by assumption) | omega | (simp only [ByteArray.size_append, sz1, decide_eq_true_eq, *]; omega) | decide | (simp only [Bool.and_true, Bool.and_eq_true, decide_eq_true_eq, ByteArray.size_extract, ByteArray.size_append, sz1, Int.toNat_natCast, List.getD_eq_getElem?_getD, beq_iff_eq, decide_eq_false_iff_not] at *; omega))) ?_ | with_reducible refine And.intro (by first | first | with_reducible assumption | with_reducible exact pos_of (by assumption) | with_reducible exact pos_of' (by assumption) | omega | (simp only [ByteArray.size_append, sz1, decide_eq_true_eq, *]; omega) | decide | (simp only [Bool.and_true, Bool.and_eq_true, decide_eq_true_eq, ByteArray.size_extract, ByteArray.size_append, sz1, Int.toNat_natCast, List.getD_eq_getElem?_getD, beq_iff_eq, decide_eq_false_iff_not] at *; omega) | ((repeat' constructor) <;> first | rfl | first | with_reducible assumption | with_reducible exact pos_of (by assumption) | with_reducible exact pos_of' (by assumption) | omega | (simp only [ByteArray.size_append, sz1, decide_eq_true_eq, *]; omega) | decide | (simp only [Bool.and_true, Bool.and_eq_true, decide_eq_true_eq, ByteArray.size_extract, ByteArray.size_append, sz1, Int.toNat_natCast, List.getD_eq_getElem?_getD, beq_iff_eq, decide_eq_false_iff_not] at *; omega))) ?_ | with_reducible refine bcase_not ?_ | with_reducible refine bcase_t (by assumption) ?_ | with_reducible refine bcase_f (by assumption) ?_ | (with_reducible refine bcase_of (fun hx => ?_) (fun hx => ?_) <;> try simp only [hx, bcase_tt, bcase_ff, Int.toNat_natCast, Bool.not_true, Bool.not_false, cond_true, cond_false, Bool.and_true, Bool.and_false, Bool.true_and, Bool.false_and, Bool.or_true, Bool.or_false, Bool.true_or, Bool.false_or] at hK)
    all_goals refine ⟨⟨_, _, _, _, _⟩, ⟨rfl, ?_⟩, hK⟩
    all_goals (refine ⟨?_, ?_⟩ <;> first | assumption | (constructor <;> dsimp only <;> first | assumption | exact sz8))
  · exact h.elim
def J18 : LSpec
  | [(2, .pointer (some ⟨0, 0, some 0⟩)), (4, .pointer (some ⟨1, 0, some 0⟩)), (5, .string name)], H, K => ∃ r : RefT, (H = [rowR zeroR.cells, rowR r.cells] ∧ RefOk r ∧ name.size < 2 ^ 29) ∧ RetP K (rmid name r.t r.x r.b)
  | _, _, _ => False
def tab21 : Tab := ⟨fun _ => none, fun | 21 => some J21 | _ => none⟩
theorem frontS_room (s : ByteArray) : (frontS s).size ≤ s.size ∧ ((frontS s).size + 1 ≤ s.size ∨ frontS s = ⟨#[]⟩) := by
  have h : ((cutAll s 47).getD 0 (ByteArray.mk #[])).size + (cutAll s 47).length ≤ s.size + 1 := cutAll_room s 47 0
  have hl := cutAll_len s 47
  unfold frontS
  cases hc : decide (((cutAll s 47).length : Int) > 1) with
  | false => rw [Bool.false_and]; exact ⟨Nat.zero_le _, .inr rfl⟩
  | true =>
    rw [Bool.true_and]
    have := of_decide_eq_true hc
    cases (decide (((cutAll ((cutAll s 47).getD 0 (ByteArray.mk #[])) 46).length : Int) > 1) || (decide (((cutAll ((cutAll s 47).getD 0 (ByteArray.mk #[])) 58).length : Int) > 1) ||
      isS ((cutAll s 47).getD 0 (ByteArray.mk #[])) [108, 111, 99, 97, 108, 104, 111, 115, 116])) with
    | false => exact ⟨Nat.zero_le _, .inr rfl⟩
    | true => exact ⟨by show ((cutAll s 47).getD 0 _).size ≤ _; omega, .inl (by show ((cutAll s 47).getD 0 _).size + 1 ≤ _; omega)⟩
theorem J18_ok : CodeOk Tryd.prog Tryd.f10.ntmps (jn Tryd.f10 18) J18 := by
  refine join_ok (call := callOf [(25, pureS frontG)]) (hint := hints 10) (tb := tab21) hm (callOf_cons front_ok.spec callOf_nil) (by kernel_rfl) (by repeat' first | exact trivial | constructor | (intro _ h; cases h; exact J21_ok) | (intro _ h; cases h)) fun fr H K h => ?_
  unfold J18 at h
  split at h
  · rename_i name
    obtain ⟨r, ⟨rfl, hr, hp⟩, hK⟩ := h
    obtain ⟨k1, k2, k3, k4, k5⟩ := hr
    refine ⟨1, ?_⟩
    have hf := frontS_room name
    have hw : IntKind.i64.wrap ((↑(frontS name).size : Int) + (1 : Int)) = (((frontS name).size + 1 : Nat) : Int) := wrap_id (by omega) (by omega)
    refine to (R := (name.size < 1099511627776) ∧ (bcase (!((frontS name).toList == (ByteArray.mk #[]).toList)) (need ((decide ((0 : Int) ≤ (IntKind.i64.wrap ((↑(frontS name).size : Int) + (1 : Int))))) && ((decide ((IntKind.i64.wrap ((↑(frontS name).size : Int) + (1 : Int))) ≤ (↑name.size : Int))) && (decide ((↑name.size : Int) ≤ (↑name.size : Int))))) (∃ (r_1 : RefT), ((([(VB.row raw 36 [(refL zeroR.d zeroR.p zeroR.t zeroR.x false)] .own), (VB.row raw 36 [(refL (frontS name) (name.extract (IntKind.i64.wrap ((↑(frontS name).size : Int) + (1 : Int))).toNat (↑name.size : Int).toNat) r.t r.x r.b)] .own)] = [(VB.row raw 36 [(refL zeroR.d zeroR.p zeroR.t zeroR.x false)] .own), (VB.row raw 36 [(refL r_1.d r_1.p r_1.t r_1.x r_1.b)] .own)]) ∧ ((RefOk r_1) ∧ (r_1.p.size < 536870912))) ∧ (∀ (l : (List Value)), (K .ret [(2, (.pointer (some (Addr.mk 0 0 (some 0))))), (3, (.int .i64 (rdom r_1.d r_1.p r_1.t r_1.x r_1.b).snd))] [(VB.row raw 36 [(refL (rdom r_1.d r_1.p r_1.t r_1.x r_1.b).fst.d (rdom r_1.d r_1.p r_1.t r_1.x r_1.b).fst.p (rdom r_1.d r_1.p r_1.t r_1.x r_1.b).fst.t (rdom r_1.d r_1.p r_1.t r_1.x r_1.b).fst.x (rdom r_1.d r_1.p r_1.t r_1.x r_1.b).fst.b)] .own), (VB.row raw 36 [l] .own)]))))) (∃ (r_1 : RefT), ((([(VB.row raw 36 [(refL zeroR.d zeroR.p zeroR.t zeroR.x false)] .own), (VB.row raw 36 [(refL (frontS name) name r.t r.x r.b)] .own)] = [(VB.row raw 36 [(refL zeroR.d zeroR.p zeroR.t zeroR.x false)] .own), (VB.row raw 36 [(refL r_1.d r_1.p r_1.t r_1.x r_1.b)] .own)]) ∧ ((RefOk r_1) ∧ (r_1.p.size < 536870912))) ∧ (∀ (l : (List Value)), (K .ret [(2, (.pointer (some (Addr.mk 0 0 (some 0))))), (3, (.int .i64 (rdom r_1.d r_1.p r_1.t r_1.x r_1.b).snd))] [(VB.row raw 36 [(refL (rdom r_1.d r_1.p r_1.t r_1.x r_1.b).fst.d (rdom r_1.d r_1.p r_1.t r_1.x r_1.b).fst.p (rdom r_1.d r_1.p r_1.t r_1.x r_1.b).fst.t (rdom r_1.d r_1.p r_1.t r_1.x r_1.b).fst.x (rdom r_1.d r_1.p r_1.t r_1.x r_1.b).fst.b)] .own), (VB.row raw 36 [l] .own)])))))) (by kernel_rfl) ?_
    simp only [hw, Int.toNat_natCast]
    simp only [isS, rmid] at hK
    have f1 : (frontS name).size < 2 ^ 30 := by omega
    have f2 : name.size < 2 ^ 30 := by omega
    have f3 : (name.extract ((frontS name).size + 1) name.size).size < 2 ^ 29 := by rw [ByteArray.size_extract]; omega
    have f4 : (name.extract ((frontS name).size + 1) name.size).size < 2 ^ 30 := by omega
    refine ⟨by omega, bcase_not (bcase_of (fun hx => ?_) (fun hx => ?_))⟩
    · try simp only [hx, bcase_tt, bcase_ff, Int.toNat_natCast, Bool.not_true, Bool.not_false, cond_true, cond_false, Bool.and_true, Bool.and_false, Bool.true_and, Bool.false_and, Bool.or_true, Bool.or_false, Bool.true_or, Bool.false_or] at hK
      exact ⟨⟨frontS name, name, r.t, r.x, r.b⟩, ⟨rfl, ⟨f1, f2, k3, k4, k5⟩, hp⟩, hK⟩
    · try simp only [hx, bcase_tt, bcase_ff, Int.toNat_natCast, Bool.not_true, Bool.not_false, cond_true, cond_false, Bool.and_true, Bool.and_false, Bool.true_and, Bool.false_and, Bool.or_true, Bool.or_false, Bool.true_or, Bool.false_or] at hK
      rcases hf.2 with h1 | h1
      · exact need_of (by simp; omega) ⟨⟨frontS name, _, r.t, r.x, r.b⟩, ⟨rfl, ⟨f1, f4, k3, k4, k5⟩, f3⟩, hK⟩
      · rw [h1] at hx
        exact absurd hx (by simp)
  · exact h.elim
theorem lastOf_room (s : ByteArray) : (lastOf s).size + (cutAll s 58).length ≤ s.size + 1 := cutAll_room s 58 _
theorem J10_mem (s : ByteArray) : (lastOf s).size ≤ s.size := cutAll_size s 58 _
/-- What Parse leaves behind a name's tag. -/
def RtagP (K : Kont) (name : ByteArray) (x : List Int) (b : Bool) : Prop :=
  bcase (decide (((cutAll name 58).length : Int) > 1) && ((cutAll (lastOf name) 47).length : Int) == 1)
    (bcase (isS (lastOf name) []) (∀ l xs ys, K .ret [(2, pt 0), (3, .int .i64 10)] [rowR zeroR.cells, rowR l, .row strC 1 xs .own, .row strC 1 ys .own])
      (RetP K (rmid (name.extract 0 (name.size - (lastOf name).size - 1)) (lastOf name) x b)))
    (bcase b (RetP K (rmid name ⟨#[]⟩ x b)) (RetP K (rmid name (ByteArray.mk #[108, 97, 116, 101, 115, 116]) x b)))
def J10 : LSpec
  | [(2, .pointer (some ⟨0, 0, some 0⟩)), (4, .pointer (some ⟨1, 0, some 0⟩)), (5, .string name)], H, K => ∃ r : RefT, (H = [rowR zeroR.cells, rowR r.cells] ∧ RefOk r ∧ r.t = ⟨#[]⟩ ∧ name.size < 2 ^ 29) ∧ RtagP K name r.x r.b
  | _, _, _ => False
def tab18 : Tab := ⟨fun _ => none, fun | 18 => some J18 | _ => none⟩
theorem J10_ok : CodeOk Tryd.prog Tryd.f10.ntmps (jn Tryd.f10 10) J10 := by
  refine join_ok (call := callOf [(23, memS cutG)]) (hint := hints 10) (tb := tab18) hm (callOf_cons cut_ok.spec callOf_nil) (by kernel_rfl) (by repeat' first | exact trivial | constructor | (intro _ h; cases h; exact J18_ok) | (intro _ h; cases h)) fun fr H K h => ?_
  unfold J10 at h
  split at h
  · rename_i name
    obtain ⟨⟨d, p, t, x, b⟩, ⟨rfl, hr, hp, hn⟩, hK⟩ := h
    obtain ⟨k1, k2, k3, k4, k5⟩ := hr
    dsimp only at k1 k2 k3 k4 k5 hp hK
    refine ⟨1, ?_⟩
    have hl := cutAll_len name 58
    have hw : IntKind.i64.wrap ((↑(cutAll name 58).length : Int) - (1 : Int)) = (((cutAll name 58).length - 1 : Nat) : Int) := by
      rw [show ((↑(cutAll name 58).length : Int) - 1) = (((cutAll name 58).length - 1 : Nat) : Int) by omega]
      exact wrap_id (by omega) (by omega)
    have hr := lastOf_room name
    have hm := J10_mem name
    have hlast : (cutAll name 58).getD (0 + ((cutAll name 58).length - 1)) (ByteArray.mk #[]) = lastOf name := by rw [Nat.zero_add]; rfl
    refine to (R := (name.size < 1099511627776) ∧ (need ((decide ((0 : Int) ≤ (IntKind.i64.wrap ((↑(cutAll name (58 : Int)).length : Int) - (1 : Int))))) && (decide ((IntKind.i64.wrap ((↑(cutAll name (58 : Int)).length : Int) - (1 : Int))) < (↑(cutAll name (58 : Int)).length : Int)))) (need ((decide ((0 + (IntKind.i64.wrap ((↑(cutAll name (58 : Int)).length : Int) - (1 : Int))).toNat) < (cutAll name (58 : Int)).length)) && true) (bcase (decide ((↑(cutAll name (58 : Int)).length : Int) > (1 : Int))) (((ByteArray.size ((cutAll name (58 : Int)).getD (0 + (IntKind.i64.wrap ((↑(cutAll name (58 : Int)).length : Int) - (1 : Int))).toNat) (ByteArray.mk #[]))) < 1099511627776) ∧ (bcase ((↑(cutAll ((cutAll name (58 : Int)).getD (0 + (IntKind.i64.wrap ((↑(cutAll name (58 : Int)).length : Int) - (1 : Int))).toNat) (ByteArray.mk #[])) (47 : Int)).length : Int) == (1 : Int)) (bcase ((ByteArray.toList ((cutAll name (58 : Int)).getD (0 + (IntKind.i64.wrap ((↑(cutAll name (58 : Int)).length : Int) - (1 : Int))).toNat) (ByteArray.mk #[]))) == (ByteArray.mk #[]).toList) (K .ret [(2, (.pointer (some (Addr.mk 0 0 (some 0))))), (3, (.int .i64 (10 : Int)))] [(VB.row raw 36 [(refL (ByteArray.mk #[]) (ByteArray.mk #[]) (ByteArray.mk #[]) zerosL false)] .own), (VB.row raw 36 [(refL (RefT.mk d p t x b).d (RefT.mk d p t x b).p (RefT.mk d p t x b).t (RefT.mk d p t x b).x (RefT.mk d p t x b).b)] .own), (VB.row strC 1 (cutAll name (58 : Int)) .own), (VB.row strC 1 (cutAll ((cutAll name (58 : Int)).getD (0 + (IntKind.i64.wrap ((↑(cutAll name (58 : Int)).length : Int) - (1 : Int))).toNat) (ByteArray.mk #[])) (47 : Int)) .own)]) (need (((decide ((0 : Int) ≤ (IntKind.i64.wrap ((IntKind.i64.wrap ((↑name.size : Int) - (↑(ByteArray.size ((cutAll name (58 : Int)).getD (0 + (IntKind.i64.wrap ((↑(cutAll name (58 : Int)).length : Int) - (1 : Int))).toNat) (ByteArray.mk #[]))) : Int))) - (1 : Int))))) && (decide ((IntKind.i64.wrap ((IntKind.i64.wrap ((↑name.size : Int) - (↑(ByteArray.size ((cutAll name (58 : Int)).getD (0 + (IntKind.i64.wrap ((↑(cutAll name (58 : Int)).length : Int) - (1 : Int))).toNat) (ByteArray.mk #[]))) : Int))) - (1 : Int))) ≤ (↑name.size : Int)))) && true) (∃ (r : RefT), ((([(VB.row raw 36 [(refL zeroR.d zeroR.p zeroR.t zeroR.x false)] .own), (VB.row raw 36 [(refL (RefT.mk d p t x b).d (RefT.mk d p t x b).p ((cutAll name (58 : Int)).getD (0 + (IntKind.i64.wrap ((↑(cutAll name (58 : Int)).length : Int) - (1 : Int))).toNat) (ByteArray.mk #[])) (RefT.mk d p t x b).x (RefT.mk d p t x b).b)] .own)] = [(VB.row raw 36 [(refL zeroR.d zeroR.p zeroR.t zeroR.x false)] .own), (VB.row raw 36 [(refL r.d r.p r.t r.x r.b)] .own)]) ∧ ((RefOk r) ∧ ((name.extract 0 (IntKind.i64.wrap ((IntKind.i64.wrap ((↑name.size : Int) - (↑(ByteArray.size ((cutAll name (58 : Int)).getD (0 + (IntKind.i64.wrap ((↑(cutAll name (58 : Int)).length : Int) - (1 : Int))).toNat) (ByteArray.mk #[]))) : Int))) - (1 : Int))).toNat).size < 536870912))) ∧ (∀ (l : (List Value)), (K .ret [(2, (.pointer (some (Addr.mk 0 0 (some 0))))), (3, (.int .i64 (rmid (name.extract 0 (IntKind.i64.wrap ((IntKind.i64.wrap ((↑name.size : Int) - (↑(ByteArray.size ((cutAll name (58 : Int)).getD (0 + (IntKind.i64.wrap ((↑(cutAll name (58 : Int)).length : Int) - (1 : Int))).toNat) (ByteArray.mk #[]))) : Int))) - (1 : Int))).toNat) r.t r.x r.b).snd))] [(VB.row raw 36 [(refL (rmid (name.extract 0 (IntKind.i64.wrap ((IntKind.i64.wrap ((↑name.size : Int) - (↑(ByteArray.size ((cutAll name (58 : Int)).getD (0 + (IntKind.i64.wrap ((↑(cutAll name (58 : Int)).length : Int) - (1 : Int))).toNat) (ByteArray.mk #[]))) : Int))) - (1 : Int))).toNat) r.t r.x r.b).fst.d (rmid (name.extract 0 (IntKind.i64.wrap ((IntKind.i64.wrap ((↑name.size : Int) - (↑(ByteArray.size ((cutAll name (58 : Int)).getD (0 + (IntKind.i64.wrap ((↑(cutAll name (58 : Int)).length : Int) - (1 : Int))).toNat) (ByteArray.mk #[]))) : Int))) - (1 : Int))).toNat) r.t r.x r.b).fst.p (rmid (name.extract 0 (IntKind.i64.wrap ((IntKind.i64.wrap ((↑name.size : Int) - (↑(ByteArray.size ((cutAll name (58 : Int)).getD (0 + (IntKind.i64.wrap ((↑(cutAll name (58 : Int)).length : Int) - (1 : Int))).toNat) (ByteArray.mk #[]))) : Int))) - (1 : Int))).toNat) r.t r.x r.b).fst.t (rmid (name.extract 0 (IntKind.i64.wrap ((IntKind.i64.wrap ((↑name.size : Int) - (↑(ByteArray.size ((cutAll name (58 : Int)).getD (0 + (IntKind.i64.wrap ((↑(cutAll name (58 : Int)).length : Int) - (1 : Int))).toNat) (ByteArray.mk #[]))) : Int))) - (1 : Int))).toNat) r.t r.x r.b).fst.x (rmid (name.extract 0 (IntKind.i64.wrap ((IntKind.i64.wrap ((↑name.size : Int) - (↑(ByteArray.size ((cutAll name (58 : Int)).getD (0 + (IntKind.i64.wrap ((↑(cutAll name (58 : Int)).length : Int) - (1 : Int))).toNat) (ByteArray.mk #[]))) : Int))) - (1 : Int))).toNat) r.t r.x r.b).fst.b)] .own), (VB.row raw 36 [l] .own)])))))) (bcase (!(RefT.mk d p t x b).b) (∃ (r : RefT), ((([(VB.row raw 36 [(refL zeroR.d zeroR.p zeroR.t zeroR.x false)] .own), (VB.row raw 36 [(refL (RefT.mk d p t x b).d (RefT.mk d p t x b).p (ByteArray.mk #[108, 97, 116, 101, 115, 116]) (RefT.mk d p t x b).x (RefT.mk d p t x b).b)] .own)] = [(VB.row raw 36 [(refL zeroR.d zeroR.p zeroR.t zeroR.x false)] .own), (VB.row raw 36 [(refL r.d r.p r.t r.x r.b)] .own)]) ∧ ((RefOk r) ∧ (name.size < 536870912))) ∧ (∀ (l : (List Value)), (K .ret [(2, (.pointer (some (Addr.mk 0 0 (some 0))))), (3, (.int .i64 (rmid name r.t r.x r.b).snd))] [(VB.row raw 36 [(refL (rmid name r.t r.x r.b).fst.d (rmid name r.t r.x r.b).fst.p (rmid name r.t r.x r.b).fst.t (rmid name r.t r.x r.b).fst.x (rmid name r.t r.x r.b).fst.b)] .own), (VB.row raw 36 [l] .own)])))) (∃ (r : RefT), ((([(VB.row raw 36 [(refL zeroR.d zeroR.p zeroR.t zeroR.x false)] .own), (VB.row raw 36 [(refL (RefT.mk d p t x b).d (RefT.mk d p t x b).p (RefT.mk d p t x b).t (RefT.mk d p t x b).x (RefT.mk d p t x b).b)] .own)] = [(VB.row raw 36 [(refL zeroR.d zeroR.p zeroR.t zeroR.x false)] .own), (VB.row raw 36 [(refL r.d r.p r.t r.x r.b)] .own)]) ∧ ((RefOk r) ∧ (name.size < 536870912))) ∧ (∀ (l : (List Value)), (K .ret [(2, (.pointer (some (Addr.mk 0 0 (some 0))))), (3, (.int .i64 (rmid name r.t r.x r.b).snd))] [(VB.row raw 36 [(refL (rmid name r.t r.x r.b).fst.d (rmid name r.t r.x r.b).fst.p (rmid name r.t r.x r.b).fst.t (rmid name r.t r.x r.b).fst.x (rmid name r.t r.x r.b).fst.b)] .own), (VB.row raw 36 [l] .own)]))))))) (bcase (!(RefT.mk d p t x b).b) (∃ (r : RefT), ((([(VB.row raw 36 [(refL zeroR.d zeroR.p zeroR.t zeroR.x false)] .own), (VB.row raw 36 [(refL (RefT.mk d p t x b).d (RefT.mk d p t x b).p (ByteArray.mk #[108, 97, 116, 101, 115, 116]) (RefT.mk d p t x b).x (RefT.mk d p t x b).b)] .own)] = [(VB.row raw 36 [(refL zeroR.d zeroR.p zeroR.t zeroR.x false)] .own), (VB.row raw 36 [(refL r.d r.p r.t r.x r.b)] .own)]) ∧ ((RefOk r) ∧ (name.size < 536870912))) ∧ (∀ (l : (List Value)), (K .ret [(2, (.pointer (some (Addr.mk 0 0 (some 0))))), (3, (.int .i64 (rmid name r.t r.x r.b).snd))] [(VB.row raw 36 [(refL (rmid name r.t r.x r.b).fst.d (rmid name r.t r.x r.b).fst.p (rmid name r.t r.x r.b).fst.t (rmid name r.t r.x r.b).fst.x (rmid name r.t r.x r.b).fst.b)] .own), (VB.row raw 36 [l] .own)])))) (∃ (r : RefT), ((([(VB.row raw 36 [(refL zeroR.d zeroR.p zeroR.t zeroR.x false)] .own), (VB.row raw 36 [(refL (RefT.mk d p t x b).d (RefT.mk d p t x b).p (RefT.mk d p t x b).t (RefT.mk d p t x b).x (RefT.mk d p t x b).b)] .own)] = [(VB.row raw 36 [(refL zeroR.d zeroR.p zeroR.t zeroR.x false)] .own), (VB.row raw 36 [(refL r.d r.p r.t r.x r.b)] .own)]) ∧ ((RefOk r) ∧ (name.size < 536870912))) ∧ (∀ (l : (List Value)), (K .ret [(2, (.pointer (some (Addr.mk 0 0 (some 0))))), (3, (.int .i64 (rmid name r.t r.x r.b).snd))] [(VB.row raw 36 [(refL (rmid name r.t r.x r.b).fst.d (rmid name r.t r.x r.b).fst.p (rmid name r.t r.x r.b).fst.t (rmid name r.t r.x r.b).fst.x (rmid name r.t r.x r.b).fst.b)] .own), (VB.row raw 36 [l] .own)]))))))))) (by kernel_rfl) ?_
    simp only [hw, Int.toNat_natCast, hlast]
    have f2 : (lastOf name).size < 2 ^ 30 := by omega
    have f3 : (name.extract 0 (name.size - (lastOf name).size - 1)).size < 2 ^ 29 := by rw [ByteArray.size_extract]; omega
    unfold RtagP at hK
    have leafB : (bcase b (RetP K (rmid name ⟨#[]⟩ x b)) (RetP K (rmid name (ByteArray.mk #[108, 97, 116, 101, 115, 116]) x b))) → (bcase (!b) (∃ r : RefT, (([rowR zeroR.cells, rowR (refL d p (ByteArray.mk #[108, 97, 116, 101, 115, 116]) x b)] = [rowR zeroR.cells, rowR r.cells]) ∧ RefOk r ∧ name.size < 536870912) ∧ RetP K (rmid name r.t r.x r.b))
        (∃ r : RefT, (([rowR zeroR.cells, rowR (refL d p t x b)] = [rowR zeroR.cells, rowR r.cells]) ∧ RefOk r ∧ name.size < 536870912) ∧ RetP K (rmid name r.t r.x r.b))) := fun hq => by
      refine bcase_not (bcase_of (fun h1 => ?_) (fun h1 => ?_))
      · rw [h1, bcase_tt] at hq
        subst hp
        exact ⟨⟨d, p, ⟨#[]⟩, x, b⟩, ⟨rfl, ⟨k1, k2, k3, k4, k5⟩, hn⟩, by rw [h1]; exact hq⟩
      · rw [h1, bcase_ff] at hq
        exact ⟨⟨d, p, (ByteArray.mk #[108, 97, 116, 101, 115, 116]), x, b⟩, ⟨rfl, ⟨k1, k2, by show (6 : Nat) < 2 ^ 30; omega, k4, k5⟩, hn⟩, by rw [h1]; exact hq⟩
    refine ⟨by omega, need_of (by simp; omega) (need_of (by simp; omega) (bcase_of (fun h1 => ?_) (fun h1 => ?_)))⟩
    · try simp only [h1, bcase_tt, bcase_ff, Int.toNat_natCast, Bool.not_true, Bool.not_false, cond_true, cond_false, Bool.and_true, Bool.and_false, Bool.true_and, Bool.false_and, Bool.or_true, Bool.or_false, Bool.true_or, Bool.false_or] at hK
      have h1' := of_decide_eq_true h1
      refine ⟨by omega, bcase_of (fun h2 => ?_) (fun h2 => ?_)⟩
      · try simp only [h2, bcase_tt, bcase_ff, Int.toNat_natCast, Bool.not_true, Bool.not_false, cond_true, cond_false, Bool.and_true, Bool.and_false, Bool.true_and, Bool.false_and, Bool.or_true, Bool.or_false, Bool.true_or, Bool.false_or] at hK
        refine bcase_of (fun h3 => ?_) (fun h3 => ?_)
        · try simp only [h3, bcase_tt, bcase_ff, Int.toNat_natCast, Bool.not_true, Bool.not_false, cond_true, cond_false, Bool.and_true, Bool.and_false, Bool.true_and, Bool.false_and, Bool.or_true, Bool.or_false, Bool.true_or, Bool.false_or] at hK
          exact hK _ _ _
        · try simp only [h3, bcase_tt, bcase_ff, Int.toNat_natCast, Bool.not_true, Bool.not_false, cond_true, cond_false, Bool.and_true, Bool.and_false, Bool.true_and, Bool.false_and, Bool.or_true, Bool.or_false, Bool.true_or, Bool.false_or] at hK
          have w1 : IntKind.i64.wrap ((↑name.size : Int) - (↑(lastOf name).size : Int)) = ((name.size - (lastOf name).size : Nat) : Int) := by
            rw [show ((↑name.size : Int) - (↑(lastOf name).size : Int)) = ((name.size - (lastOf name).size : Nat) : Int) by omega]
            exact wrap_id (by omega) (by omega)
          have w2 : IntKind.i64.wrap (((name.size - (lastOf name).size : Nat) : Int) - 1) = ((name.size - (lastOf name).size - 1 : Nat) : Int) := by
            rw [show (((name.size - (lastOf name).size : Nat) : Int) - 1) = ((name.size - (lastOf name).size - 1 : Nat) : Int) by omega]
            exact wrap_id (by omega) (by omega)
          simp only [w1, w2, Int.toNat_natCast]
          exact need_of (by simp; omega) ⟨⟨d, p, lastOf name, x, b⟩, ⟨rfl, ⟨k1, k2, f2, k4, k5⟩, f3⟩, hK⟩
      · try simp only [h2, bcase_tt, bcase_ff, Int.toNat_natCast, Bool.not_true, Bool.not_false, cond_true, cond_false, Bool.and_true, Bool.and_false, Bool.true_and, Bool.false_and, Bool.or_true, Bool.or_false, Bool.true_or, Bool.false_or] at hK
        exact leafB hK
    · try simp only [h1, bcase_tt, bcase_ff, Int.toNat_natCast, Bool.not_true, Bool.not_false, cond_true, cond_false, Bool.and_true, Bool.and_false, Bool.true_and, Bool.false_and, Bool.or_true, Bool.or_false, Bool.true_or, Bool.false_or] at hK
      exact leafB hK
  · exact h.elim
attribute [irreducible] rmid
end Go.Proofs.YtofcjkbgieenlaaDoor.PM

namespace Go.Proofs.YtofcjkbgieenlaaDoor.PM
open Go Go.Proofs
set_option maxRecDepth 100000
set_option linter.unusedVariables false
set_option linter.unusedSimpArgs false

def tab10 : Tab := ⟨fun _ => none, fun | 10 => some J10 | _ => none⟩
def rparse12G : Pure
  | [.string s] => some (s.size < 2 ^ 29, refV (rparse12 s))
  | _ => none
theorem rparseX_bytes (s : ByteArray) : bytesL (rparseX s) ∧ (rparseX s).length = 32 := by
  unfold rparseX
  cases (tellS (readS s)).toList == s.toList
  · exact ⟨zeros_bytes, rfl⟩
  · exact readS_bytes s
theorem rparse12_ok : PureOk Tryd.prog 10 rparse12G := by
  refine .of_run (call := callOf [(23, memS cutG), (24, pureS rparseG')]) (hint := hints 10) (tb := tab10) hm (callOf_cons cut_ok.spec (callOf_cons rparse_ok'.spec callOf_nil)) Tryd.func10 (by kernel_rfl) rfl (by kernel_rfl) (by repeat' first | exact trivial | constructor | (intro _ h; cases h; exact J10_ok) | (intro _ h; cases h)) fun args c r h => ?_
  unfold rparse12G at h
  split at h
  · rename_i s
    cases h
    refine ⟨rfl, fun hs => ⟨rfl, 1, fun K hK => ?_⟩⟩
    have h1 : (nameOf s).size ≤ s.size := cutAll_size s 64 0
    have hl := cutAll_len s 64
    have hw : IntKind.i64.wrap ((↑(nameOf s).size : Int) + (1 : Int)) = (((nameOf s).size + 1 : Nat) : Int) := wrap_id (by omega) (by omega)
    have hn : (cutAll s 64).getD 0 (ByteArray.mk #[]) = nameOf s := rfl
    have hp : s.extract ((nameOf s).size + 1) s.size = pinOf s := rfl
    have hps : (pinOf s).size ≤ s.size := by unfold pinOf; rw [ByteArray.size_extract]; omega
    obtain ⟨hb, hb2⟩ := rparseX_bytes (pinOf s)
    have hb3 : bytesL zerosL ∧ zerosL.length = 32 := ⟨zeros_bytes, rfl⟩
    have z0 : (ByteArray.mk #[]).size < 2 ^ 30 := by decide
    have f1 : (nameOf s).size < 2 ^ 29 := by omega
    refine to (R := bcase (decide ((↑s.size : Int) > (200 : Int))) (K (.tuple (Array.mk [(.agg (Array.mk (refL (ByteArray.mk #[]) (ByteArray.mk #[]) (ByteArray.mk #[]) zerosL false))), (.int .i64 (3 : Int))])) []) ((s.size < 1099511627776) ∧ (need (decide ((0 : Int) < (↑(cutAll s (64 : Int)).length : Int))) (need ((decide (0 < (cutAll s (64 : Int)).length)) && true) (bcase (decide ((↑(ByteArray.size ((cutAll s (64 : Int)).getD 0 (ByteArray.mk #[]))) : Int) < (↑s.size : Int))) (need ((decide ((0 : Int) ≤ (IntKind.i64.wrap ((↑(ByteArray.size ((cutAll s (64 : Int)).getD 0 (ByteArray.mk #[]))) : Int) + (1 : Int))))) && ((decide ((IntKind.i64.wrap ((↑(ByteArray.size ((cutAll s (64 : Int)).getD 0 (ByteArray.mk #[]))) : Int) + (1 : Int))) ≤ (↑s.size : Int))) && (decide ((↑s.size : Int) ≤ (↑s.size : Int))))) (((s.extract (IntKind.i64.wrap ((↑(ByteArray.size ((cutAll s (64 : Int)).getD 0 (ByteArray.mk #[]))) : Int) + (1 : Int))).toNat (↑s.size : Int).toNat).size < 1099511627776) ∧ (bcase ((rparseE (s.extract (IntKind.i64.wrap ((↑(ByteArray.size ((cutAll s (64 : Int)).getD 0 (ByteArray.mk #[]))) : Int) + (1 : Int))).toNat (↑s.size : Int).toNat)) != (0 : Int)) (K (.tuple (Array.mk [(.agg (Array.mk (refL (ByteArray.mk #[]) (ByteArray.mk #[]) (ByteArray.mk #[]) zerosL false))), (.int .i64 (10 : Int))])) []) (need ((decide (0 < [(decI (digL (rparseX (s.extract (IntKind.i64.wrap ((↑(ByteArray.size ((cutAll s (64 : Int)).getD 0 (ByteArray.mk #[]))) : Int) + (1 : Int))).toNat (↑s.size : Int).toNat))))].length)) && true) (need ((decide (0 < [(refL (ByteArray.mk #[]) (ByteArray.mk #[]) (ByteArray.mk #[]) (rparseX (s.extract (IntKind.i64.wrap ((↑(ByteArray.size ((cutAll s (64 : Int)).getD 0 (ByteArray.mk #[]))) : Int) + (1 : Int))).toNat (↑s.size : Int).toNat)) false)].length)) && true) (∃ (r : RefT), ((([(VB.row raw 36 [(refL (ByteArray.mk #[]) (ByteArray.mk #[]) (ByteArray.mk #[]) zerosL false)] .own), (VB.row raw 36 [(refL (ByteArray.mk #[]) (ByteArray.mk #[]) (ByteArray.mk #[]) (rparseX (s.extract (IntKind.i64.wrap ((↑(ByteArray.size ((cutAll s (64 : Int)).getD 0 (ByteArray.mk #[]))) : Int) + (1 : Int))).toNat (↑s.size : Int).toNat)) true)] .own)] = [(VB.row raw 36 [(refL zeroR.d zeroR.p zeroR.t zeroR.x false)] .own), (VB.row raw 36 [(refL r.d r.p r.t r.x r.b)] .own)]) ∧ ((RefOk r) ∧ ((r.t = (ByteArray.mk #[])) ∧ ((ByteArray.size ((cutAll s (64 : Int)).getD 0 (ByteArray.mk #[]))) < 536870912)))) ∧ (bcase ((decide ((↑(cutAll ((cutAll s (64 : Int)).getD 0 (ByteArray.mk #[])) (58 : Int)).length : Int) > (1 : Int))) && ((↑(cutAll (lastOf ((cutAll s (64 : Int)).getD 0 (ByteArray.mk #[]))) (47 : Int)).length : Int) == (1 : Int))) (bcase (isS (lastOf ((cutAll s (64 : Int)).getD 0 (ByteArray.mk #[]))) []) (∀ (l : (List Value)) (xs ys : (List strC.α)), (K (.tuple (Array.mk [(.agg (Array.mk (refL zeroR.d zeroR.p zeroR.t zeroR.x false))), (.int .i64 (10 : Int))])) [])) (∀ (l : (List Value)), (need (((decide (0 < [(rmid (ByteArray.extract ((cutAll s (64 : Int)).getD 0 (ByteArray.mk #[])) 0 (((ByteArray.size ((cutAll s (64 : Int)).getD 0 (ByteArray.mk #[]))) - (lastOf ((cutAll s (64 : Int)).getD 0 (ByteArray.mk #[]))).size) - 1)) (lastOf ((cutAll s (64 : Int)).getD 0 (ByteArray.mk #[]))) r.x r.b).fst.cells].length)) && true) && true) (K (.tuple (Array.mk [(.agg (Array.mk (refL (rmid (ByteArray.extract ((cutAll s (64 : Int)).getD 0 (ByteArray.mk #[])) 0 (((ByteArray.size ((cutAll s (64 : Int)).getD 0 (ByteArray.mk #[]))) - (lastOf ((cutAll s (64 : Int)).getD 0 (ByteArray.mk #[]))).size) - 1)) (lastOf ((cutAll s (64 : Int)).getD 0 (ByteArray.mk #[]))) r.x r.b).fst.d (rmid (ByteArray.extract ((cutAll s (64 : Int)).getD 0 (ByteArray.mk #[])) 0 (((ByteArray.size ((cutAll s (64 : Int)).getD 0 (ByteArray.mk #[]))) - (lastOf ((cutAll s (64 : Int)).getD 0 (ByteArray.mk #[]))).size) - 1)) (lastOf ((cutAll s (64 : Int)).getD 0 (ByteArray.mk #[]))) r.x r.b).fst.p (rmid (ByteArray.extract ((cutAll s (64 : Int)).getD 0 (ByteArray.mk #[])) 0 (((ByteArray.size ((cutAll s (64 : Int)).getD 0 (ByteArray.mk #[]))) - (lastOf ((cutAll s (64 : Int)).getD 0 (ByteArray.mk #[]))).size) - 1)) (lastOf ((cutAll s (64 : Int)).getD 0 (ByteArray.mk #[]))) r.x r.b).fst.t (rmid (ByteArray.extract ((cutAll s (64 : Int)).getD 0 (ByteArray.mk #[])) 0 (((ByteArray.size ((cutAll s (64 : Int)).getD 0 (ByteArray.mk #[]))) - (lastOf ((cutAll s (64 : Int)).getD 0 (ByteArray.mk #[]))).size) - 1)) (lastOf ((cutAll s (64 : Int)).getD 0 (ByteArray.mk #[]))) r.x r.b).fst.x (rmid (ByteArray.extract ((cutAll s (64 : Int)).getD 0 (ByteArray.mk #[])) 0 (((ByteArray.size ((cutAll s (64 : Int)).getD 0 (ByteArray.mk #[]))) - (lastOf ((cutAll s (64 : Int)).getD 0 (ByteArray.mk #[]))).size) - 1)) (lastOf ((cutAll s (64 : Int)).getD 0 (ByteArray.mk #[]))) r.x r.b).fst.b))), (.int .i64 (rmid (ByteArray.extract ((cutAll s (64 : Int)).getD 0 (ByteArray.mk #[])) 0 (((ByteArray.size ((cutAll s (64 : Int)).getD 0 (ByteArray.mk #[]))) - (lastOf ((cutAll s (64 : Int)).getD 0 (ByteArray.mk #[]))).size) - 1)) (lastOf ((cutAll s (64 : Int)).getD 0 (ByteArray.mk #[]))) r.x r.b).snd)])) [])))) (bcase r.b (∀ (l : (List Value)), (K (.tuple (Array.mk [(.agg (Array.mk (refL (rmid ((cutAll s (64 : Int)).getD 0 (ByteArray.mk #[])) (ByteArray.mk #[]) r.x r.b).fst.d (rmid ((cutAll s (64 : Int)).getD 0 (ByteArray.mk #[])) (ByteArray.mk #[]) r.x r.b).fst.p (rmid ((cutAll s (64 : Int)).getD 0 (ByteArray.mk #[])) (ByteArray.mk #[]) r.x r.b).fst.t (rmid ((cutAll s (64 : Int)).getD 0 (ByteArray.mk #[])) (ByteArray.mk #[]) r.x r.b).fst.x (rmid ((cutAll s (64 : Int)).getD 0 (ByteArray.mk #[])) (ByteArray.mk #[]) r.x r.b).fst.b))), (.int .i64 (rmid ((cutAll s (64 : Int)).getD 0 (ByteArray.mk #[])) (ByteArray.mk #[]) r.x r.b).snd)])) [])) (∀ (l : (List Value)), (K (.tuple (Array.mk [(.agg (Array.mk (refL (rmid ((cutAll s (64 : Int)).getD 0 (ByteArray.mk #[])) (ByteArray.mk #[108, 97, 116, 101, 115, 116]) r.x r.b).fst.d (rmid ((cutAll s (64 : Int)).getD 0 (ByteArray.mk #[])) (ByteArray.mk #[108, 97, 116, 101, 115, 116]) r.x r.b).fst.p (rmid ((cutAll s (64 : Int)).getD 0 (ByteArray.mk #[])) (ByteArray.mk #[108, 97, 116, 101, 115, 116]) r.x r.b).fst.t (rmid ((cutAll s (64 : Int)).getD 0 (ByteArray.mk #[])) (ByteArray.mk #[108, 97, 116, 101, 115, 116]) r.x r.b).fst.x (rmid ((cutAll s (64 : Int)).getD 0 (ByteArray.mk #[])) (ByteArray.mk #[108, 97, 116, 101, 115, 116]) r.x r.b).fst.b))), (.int .i64 (rmid ((cutAll s (64 : Int)).getD 0 (ByteArray.mk #[])) (ByteArray.mk #[108, 97, 116, 101, 115, 116]) r.x r.b).snd)])) []))))))))))) (∃ (r : RefT), ((([(VB.row raw 36 [(refL (ByteArray.mk #[]) (ByteArray.mk #[]) (ByteArray.mk #[]) zerosL false)] .own), (VB.row raw 36 [(refL (ByteArray.mk #[]) (ByteArray.mk #[]) (ByteArray.mk #[]) zerosL false)] .own)] = [(VB.row raw 36 [(refL zeroR.d zeroR.p zeroR.t zeroR.x false)] .own), (VB.row raw 36 [(refL r.d r.p r.t r.x r.b)] .own)]) ∧ ((RefOk r) ∧ ((r.t = (ByteArray.mk #[])) ∧ ((ByteArray.size ((cutAll s (64 : Int)).getD 0 (ByteArray.mk #[]))) < 536870912)))) ∧ (bcase ((decide ((↑(cutAll ((cutAll s (64 : Int)).getD 0 (ByteArray.mk #[])) (58 : Int)).length : Int) > (1 : Int))) && ((↑(cutAll (lastOf ((cutAll s (64 : Int)).getD 0 (ByteArray.mk #[]))) (47 : Int)).length : Int) == (1 : Int))) (bcase (isS (lastOf ((cutAll s (64 : Int)).getD 0 (ByteArray.mk #[]))) []) (∀ (l : (List Value)) (xs ys : (List strC.α)), (K (.tuple (Array.mk [(.agg (Array.mk (refL zeroR.d zeroR.p zeroR.t zeroR.x false))), (.int .i64 (10 : Int))])) [])) (∀ (l : (List Value)), (need (((decide (0 < [(rmid (ByteArray.extract ((cutAll s (64 : Int)).getD 0 (ByteArray.mk #[])) 0 (((ByteArray.size ((cutAll s (64 : Int)).getD 0 (ByteArray.mk #[]))) - (lastOf ((cutAll s (64 : Int)).getD 0 (ByteArray.mk #[]))).size) - 1)) (lastOf ((cutAll s (64 : Int)).getD 0 (ByteArray.mk #[]))) r.x r.b).fst.cells].length)) && true) && true) (K (.tuple (Array.mk [(.agg (Array.mk (refL (rmid (ByteArray.extract ((cutAll s (64 : Int)).getD 0 (ByteArray.mk #[])) 0 (((ByteArray.size ((cutAll s (64 : Int)).getD 0 (ByteArray.mk #[]))) - (lastOf ((cutAll s (64 : Int)).getD 0 (ByteArray.mk #[]))).size) - 1)) (lastOf ((cutAll s (64 : Int)).getD 0 (ByteArray.mk #[]))) r.x r.b).fst.d (rmid (ByteArray.extract ((cutAll s (64 : Int)).getD 0 (ByteArray.mk #[])) 0 (((ByteArray.size ((cutAll s (64 : Int)).getD 0 (ByteArray.mk #[]))) - (lastOf ((cutAll s (64 : Int)).getD 0 (ByteArray.mk #[]))).size) - 1)) (lastOf ((cutAll s (64 : Int)).getD 0 (ByteArray.mk #[]))) r.x r.b).fst.p (rmid (ByteArray.extract ((cutAll s (64 : Int)).getD 0 (ByteArray.mk #[])) 0 (((ByteArray.size ((cutAll s (64 : Int)).getD 0 (ByteArray.mk #[]))) - (lastOf ((cutAll s (64 : Int)).getD 0 (ByteArray.mk #[]))).size) - 1)) (lastOf ((cutAll s (64 : Int)).getD 0 (ByteArray.mk #[]))) r.x r.b).fst.t (rmid (ByteArray.extract ((cutAll s (64 : Int)).getD 0 (ByteArray.mk #[])) 0 (((ByteArray.size ((cutAll s (64 : Int)).getD 0 (ByteArray.mk #[]))) - (lastOf ((cutAll s (64 : Int)).getD 0 (ByteArray.mk #[]))).size) - 1)) (lastOf ((cutAll s (64 : Int)).getD 0 (ByteArray.mk #[]))) r.x r.b).fst.x (rmid (ByteArray.extract ((cutAll s (64 : Int)).getD 0 (ByteArray.mk #[])) 0 (((ByteArray.size ((cutAll s (64 : Int)).getD 0 (ByteArray.mk #[]))) - (lastOf ((cutAll s (64 : Int)).getD 0 (ByteArray.mk #[]))).size) - 1)) (lastOf ((cutAll s (64 : Int)).getD 0 (ByteArray.mk #[]))) r.x r.b).fst.b))), (.int .i64 (rmid (ByteArray.extract ((cutAll s (64 : Int)).getD 0 (ByteArray.mk #[])) 0 (((ByteArray.size ((cutAll s (64 : Int)).getD 0 (ByteArray.mk #[]))) - (lastOf ((cutAll s (64 : Int)).getD 0 (ByteArray.mk #[]))).size) - 1)) (lastOf ((cutAll s (64 : Int)).getD 0 (ByteArray.mk #[]))) r.x r.b).snd)])) [])))) (bcase r.b (∀ (l : (List Value)), (K (.tuple (Array.mk [(.agg (Array.mk (refL (rmid ((cutAll s (64 : Int)).getD 0 (ByteArray.mk #[])) (ByteArray.mk #[]) r.x r.b).fst.d (rmid ((cutAll s (64 : Int)).getD 0 (ByteArray.mk #[])) (ByteArray.mk #[]) r.x r.b).fst.p (rmid ((cutAll s (64 : Int)).getD 0 (ByteArray.mk #[])) (ByteArray.mk #[]) r.x r.b).fst.t (rmid ((cutAll s (64 : Int)).getD 0 (ByteArray.mk #[])) (ByteArray.mk #[]) r.x r.b).fst.x (rmid ((cutAll s (64 : Int)).getD 0 (ByteArray.mk #[])) (ByteArray.mk #[]) r.x r.b).fst.b))), (.int .i64 (rmid ((cutAll s (64 : Int)).getD 0 (ByteArray.mk #[])) (ByteArray.mk #[]) r.x r.b).snd)])) [])) (∀ (l : (List Value)), (K (.tuple (Array.mk [(.agg (Array.mk (refL (rmid ((cutAll s (64 : Int)).getD 0 (ByteArray.mk #[])) (ByteArray.mk #[108, 97, 116, 101, 115, 116]) r.x r.b).fst.d (rmid ((cutAll s (64 : Int)).getD 0 (ByteArray.mk #[])) (ByteArray.mk #[108, 97, 116, 101, 115, 116]) r.x r.b).fst.p (rmid ((cutAll s (64 : Int)).getD 0 (ByteArray.mk #[])) (ByteArray.mk #[108, 97, 116, 101, 115, 116]) r.x r.b).fst.t (rmid ((cutAll s (64 : Int)).getD 0 (ByteArray.mk #[])) (ByteArray.mk #[108, 97, 116, 101, 115, 116]) r.x r.b).fst.x (rmid ((cutAll s (64 : Int)).getD 0 (ByteArray.mk #[])) (ByteArray.mk #[108, 97, 116, 101, 115, 116]) r.x r.b).fst.b))), (.int .i64 (rmid ((cutAll s (64 : Int)).getD 0 (ByteArray.mk #[])) (ByteArray.mk #[108, 97, 116, 101, 115, 116]) r.x r.b).snd)])) []))))))))))) (by kernel_rfl) ?_
    simp only [hn, hw, Int.toNat_natCast, hp]
    simp only [rparse12] at hK
    repeat' first | with_reducible exact trivial | with_reducible refine need_of (by first | first | with_reducible assumption | (simp only [List.length_cons, List.length_nil, Nat.zero_add, Nat.zero_lt_succ, decide_true, Bool.and_true, Bool.and_self]; done) | with_reducible exact pos_of (by assumption) | with_reducible exact pos_of' (by assumption) | omega | (simp only [ByteArray.size_append, sz1, decide_eq_true_eq, *]; omega) | decide | (simp only [Bool.and_true, Bool.and_eq_true, decide_eq_true_eq, ByteArray.size_extract, ByteArray.size_append, sz1, Int.toNat_natCast, List.getD_eq_getElem?_getD, beq_iff_eq, decide_eq_false_iff_not] at *; omega) | ((repeat' constructor) <;> first | rfl | first | with_reducible assumption | (simp only [List.length_cons, List.length_nil, Nat.zero_add, Nat.zero_lt_succ, decide_true, Bool.and_true, Bool.and_self]; done) | with_reducible exact pos_of (by assumption) | with_reducible exact pos_of' (by assumption) | omega | (simp only [ByteArray.size_append, sz1, decide_eq_true_eq, *]; omega) | decide | (simp only [Bool.and_true, Bool.and_eq_true, decide_eq_true_eq, ByteArray.size_extract, ByteArray.size_append, sz1, Int.toNat_natCast, List.getD_eq_getElem?_getD, beq_iff_eq, decide_eq_false_iff_not] at *; omega))) ?_ | with_reducible refine And.intro (by first | first | with_reducible assumption | (simp only [List.length_cons, List.length_nil, Nat.zero_add, Nat.zero_lt_succ, decide_true, Bool.and_true, Bool.and_self]; done) | with_reducible exact pos_of (by assumption) | with_reducible exact pos_of' (by assumption) | omega | (simp only [ByteArray.size_append, sz1, decide_eq_true_eq, *]; omega) | decide | (simp only [Bool.and_true, Bool.and_eq_true, decide_eq_true_eq, ByteArray.size_extract, ByteArray.size_append, sz1, Int.toNat_natCast, List.getD_eq_getElem?_getD, beq_iff_eq, decide_eq_false_iff_not] at *; omega) | ((repeat' constructor) <;> first | rfl | first | with_reducible assumption | (simp only [List.length_cons, List.length_nil, Nat.zero_add, Nat.zero_lt_succ, decide_true, Bool.and_true, Bool.and_self]; done) | with_reducible exact pos_of (by assumption) | with_reducible exact pos_of' (by assumption) | omega | (simp only [ByteArray.size_append, sz1, decide_eq_true_eq, *]; omega) | decide | (simp only [Bool.and_true, Bool.and_eq_true, decide_eq_true_eq, ByteArray.size_extract, ByteArray.size_append, sz1, Int.toNat_natCast, List.getD_eq_getElem?_getD, beq_iff_eq, decide_eq_false_iff_not] at *; omega))) ?_ | with_reducible refine bcase_not ?_ | with_reducible refine bcase_t rfl ?_ | with_reducible refine bcase_f rfl ?_ | with_reducible refine bcase_t (by assumption) ?_ | with_reducible refine bcase_f (by assumption) ?_ | (with_reducible refine bcase_of (fun hx => ?_) (fun hx => ?_) <;> try simp only [hx, bcase_tt, bcase_ff, Int.toNat_natCast, Bool.not_true, Bool.not_false, cond_true, cond_false, Bool.and_true, Bool.and_false, Bool.true_and, Bool.false_and, Bool.or_true, Bool.or_false, Bool.true_or, Bool.false_or] at hK)
    · exact hK []
    · exact hK []
    · refine ⟨⟨_, _, _, _, _⟩, ⟨rfl, ⟨z0, z0, z0, hb, hb2⟩, rfl, f1⟩, ?_⟩
      dsimp only
      simp only [rtag] at hK
      repeat' first | with_reducible exact trivial | with_reducible refine need_of (by first | first | with_reducible assumption | (simp only [List.length_cons, List.length_nil, Nat.zero_add, Nat.zero_lt_succ, decide_true, Bool.and_true, Bool.and_self]; done) | with_reducible exact pos_of (by assumption) | with_reducible exact pos_of' (by assumption) | omega | (simp only [ByteArray.size_append, sz1, decide_eq_true_eq, *]; omega) | decide | (simp only [Bool.and_true, Bool.and_eq_true, decide_eq_true_eq, ByteArray.size_extract, ByteArray.size_append, sz1, Int.toNat_natCast, List.getD_eq_getElem?_getD, beq_iff_eq, decide_eq_false_iff_not] at *; omega) | ((repeat' constructor) <;> first | rfl | first | with_reducible assumption | (simp only [List.length_cons, List.length_nil, Nat.zero_add, Nat.zero_lt_succ, decide_true, Bool.and_true, Bool.and_self]; done) | with_reducible exact pos_of (by assumption) | with_reducible exact pos_of' (by assumption) | omega | (simp only [ByteArray.size_append, sz1, decide_eq_true_eq, *]; omega) | decide | (simp only [Bool.and_true, Bool.and_eq_true, decide_eq_true_eq, ByteArray.size_extract, ByteArray.size_append, sz1, Int.toNat_natCast, List.getD_eq_getElem?_getD, beq_iff_eq, decide_eq_false_iff_not] at *; omega))) ?_ | with_reducible refine And.intro (by first | first | with_reducible assumption | (simp only [List.length_cons, List.length_nil, Nat.zero_add, Nat.zero_lt_succ, decide_true, Bool.and_true, Bool.and_self]; done) | with_reducible exact pos_of (by assumption) | with_reducible exact pos_of' (by assumption) | omega | (simp only [ByteArray.size_append, sz1, decide_eq_true_eq, *]; omega) | decide | (simp only [Bool.and_true, Bool.and_eq_true, decide_eq_true_eq, ByteArray.size_extract, ByteArray.size_append, sz1, Int.toNat_natCast, List.getD_eq_getElem?_getD, beq_iff_eq, decide_eq_false_iff_not] at *; omega) | ((repeat' constructor) <;> first | rfl | first | with_reducible assumption | (simp only [List.length_cons, List.length_nil, Nat.zero_add, Nat.zero_lt_succ, decide_true, Bool.and_true, Bool.and_self]; done) | with_reducible exact pos_of (by assumption) | with_reducible exact pos_of' (by assumption) | omega | (simp only [ByteArray.size_append, sz1, decide_eq_true_eq, *]; omega) | decide | (simp only [Bool.and_true, Bool.and_eq_true, decide_eq_true_eq, ByteArray.size_extract, ByteArray.size_append, sz1, Int.toNat_natCast, List.getD_eq_getElem?_getD, beq_iff_eq, decide_eq_false_iff_not] at *; omega))) ?_ | with_reducible refine bcase_not ?_ | with_reducible refine bcase_t rfl ?_ | with_reducible refine bcase_f rfl ?_ | with_reducible refine bcase_t (by assumption) ?_ | with_reducible refine bcase_f (by assumption) ?_ | (with_reducible refine bcase_of (fun hx => ?_) (fun hx => ?_) <;> try simp only [hx, bcase_tt, bcase_ff, Int.toNat_natCast, Bool.not_true, Bool.not_false, cond_true, cond_false, Bool.and_true, Bool.and_false, Bool.true_and, Bool.false_and, Bool.or_true, Bool.or_false, Bool.true_or, Bool.false_or] at hK)
      all_goals (intros; first | exact hK [] | exact need_of rfl (hK []))
    · refine ⟨⟨_, _, _, _, _⟩, ⟨rfl, ⟨z0, z0, z0, hb3.1, hb3.2⟩, rfl, f1⟩, ?_⟩
      dsimp only
      simp only [rtag] at hK
      repeat' first | with_reducible exact trivial | with_reducible refine need_of (by first | first | with_reducible assumption | (simp only [List.length_cons, List.length_nil, Nat.zero_add, Nat.zero_lt_succ, decide_true, Bool.and_true, Bool.and_self]; done) | with_reducible exact pos_of (by assumption) | with_reducible exact pos_of' (by assumption) | omega | (simp only [ByteArray.size_append, sz1, decide_eq_true_eq, *]; omega) | decide | (simp only [Bool.and_true, Bool.and_eq_true, decide_eq_true_eq, ByteArray.size_extract, ByteArray.size_append, sz1, Int.toNat_natCast, List.getD_eq_getElem?_getD, beq_iff_eq, decide_eq_false_iff_not] at *; omega) | ((repeat' constructor) <;> first | rfl | first | with_reducible assumption | (simp only [List.length_cons, List.length_nil, Nat.zero_add, Nat.zero_lt_succ, decide_true, Bool.and_true, Bool.and_self]; done) | with_reducible exact pos_of (by assumption) | with_reducible exact pos_of' (by assumption) | omega | (simp only [ByteArray.size_append, sz1, decide_eq_true_eq, *]; omega) | decide | (simp only [Bool.and_true, Bool.and_eq_true, decide_eq_true_eq, ByteArray.size_extract, ByteArray.size_append, sz1, Int.toNat_natCast, List.getD_eq_getElem?_getD, beq_iff_eq, decide_eq_false_iff_not] at *; omega))) ?_ | with_reducible refine And.intro (by first | first | with_reducible assumption | (simp only [List.length_cons, List.length_nil, Nat.zero_add, Nat.zero_lt_succ, decide_true, Bool.and_true, Bool.and_self]; done) | with_reducible exact pos_of (by assumption) | with_reducible exact pos_of' (by assumption) | omega | (simp only [ByteArray.size_append, sz1, decide_eq_true_eq, *]; omega) | decide | (simp only [Bool.and_true, Bool.and_eq_true, decide_eq_true_eq, ByteArray.size_extract, ByteArray.size_append, sz1, Int.toNat_natCast, List.getD_eq_getElem?_getD, beq_iff_eq, decide_eq_false_iff_not] at *; omega) | ((repeat' constructor) <;> first | rfl | first | with_reducible assumption | (simp only [List.length_cons, List.length_nil, Nat.zero_add, Nat.zero_lt_succ, decide_true, Bool.and_true, Bool.and_self]; done) | with_reducible exact pos_of (by assumption) | with_reducible exact pos_of' (by assumption) | omega | (simp only [ByteArray.size_append, sz1, decide_eq_true_eq, *]; omega) | decide | (simp only [Bool.and_true, Bool.and_eq_true, decide_eq_true_eq, ByteArray.size_extract, ByteArray.size_append, sz1, Int.toNat_natCast, List.getD_eq_getElem?_getD, beq_iff_eq, decide_eq_false_iff_not] at *; omega))) ?_ | with_reducible refine bcase_not ?_ | with_reducible refine bcase_t rfl ?_ | with_reducible refine bcase_f rfl ?_ | with_reducible refine bcase_t (by assumption) ?_ | with_reducible refine bcase_f (by assumption) ?_ | (with_reducible refine bcase_of (fun hx => ?_) (fun hx => ?_) <;> try simp only [hx, bcase_tt, bcase_ff, Int.toNat_natCast, Bool.not_true, Bool.not_false, cond_true, cond_false, Bool.and_true, Bool.and_false, Bool.true_and, Bool.false_and, Bool.or_true, Bool.or_false, Bool.true_or, Bool.false_or] at hK)
      all_goals (intros; first | exact hK [] | exact need_of rfl (hK []))
  · cases h
end Go.Proofs.YtofcjkbgieenlaaDoor.PM

namespace Go.Proofs.YtofcjkbgieenlaaDoor.PM
open Go Go.Proofs Go.RowKit
set_option maxRecDepth 100000
set_option linter.unusedVariables false
set_option linter.unusedSimpArgs false

theorem PureOk.of_shelf {P : Program} {f : FuncId} {fn : Func} {b : Code} {g : Pure} (hf : P.funcs[f]? = some fn) (hn : (fn.name == "runtime.NumGoroutine") = false) (hb : fn.body = some b)
    (h : ∀ args c r, g args = some (c, r) → closedL args = true ∧ (c → closedV r = true ∧ ∀ w, Calls P f ⟨args⟩ w fun e w' => e = .returned r ∧ Below w.heap.size w w')) : PureOk P f g where
  enter := ⟨fn, b, hf, hn, hb⟩
  args args c r hg := (h args c r hg).1
  meets args c r hg hcc := by
    obtain ⟨h0, h1⟩ := h args c r hg
    obtain ⟨h2, h3⟩ := h1 hcc
    exact ⟨h2, .of_calls h0 h2 h3⟩
/-- A function of two texts. -/
def two (cond : ByteArray → ByteArray → Prop) (f : ByteArray → ByteArray → Value) : Pure
  | [.string s, .string t] => some (cond s t, f s t)
  | _ => none
theorem two_ok {P : Program} {n : FuncId} {fn : Func} {b : Code} {cond : ByteArray → ByteArray → Prop} {f : ByteArray → ByteArray → Value} (hf : P.funcs[n]? = some fn) (hn : (fn.name == "runtime.NumGoroutine") = false) (hb : fn.body = some b)
    (hc : ∀ s t, closedV (f s t) = true) (h : ∀ s t, cond s t → ∀ w, Calls P n #[.string s, .string t] w fun e w' => e = .returned (f s t) ∧ w' = w) : PureOk P n (two cond f) :=
  .of_shelf hf hn hb fun args c r hg => by
    unfold two at hg
    split at hg
    · rename_i s t
      cases hg
      exact ⟨rfl, fun hcc => ⟨hc s t, fun w => (h s t hcc w).mono fun e w' k => ⟨k.1, by rw [k.2]; exact Below.refl _ _⟩⟩⟩
    · cases hg
/-- A text, and a byte. -/
def sb (cond : ByteArray → Int → Prop) (f : ByteArray → Int → Value) : Pure
  | [.string s, .int _ c] => some (cond s c, f s c)
  | _ => none
def oneB (t : ByteArray) : UInt8 := t.data.toList.getD 0 0
theorem trimLeft_ok : PureOk Tryd.prog 81 (two (fun s t => t = ⟨#[45]⟩) fun s t => .string ⟨(Lib.trimLeftB s.data.toList 45).toArray⟩) :=
  two_ok Tryd.func81 (by kernel_rfl) rfl (fun _ _ => rfl) fun s t h w => by subst h; exact Tryd.strings_TrimLeft_one s 45 (by decide) w
theorem cutPrefix_ok : PureOk Tryd.prog 28 (two (fun s t => True) fun s t => .tuple #[.string ⟨(Lib.trimPrefix s.data.toList t.data.toList).toArray⟩, .bool (Lib.hasPrefix s.data.toList t.data.toList)]) :=
  two_ok Tryd.func28 (by kernel_rfl) rfl (fun _ _ => rfl) fun s t h w => Tryd.strings_CutPrefix s t w
theorem contains_ok : PureOk Tryd.prog 21 (two (fun s t => t = ⟨#[47]⟩) fun s t => .bool (decide (0 ≤ Lib.indexByte s.data.toList 47))) :=
  two_ok Tryd.func21 (by kernel_rfl) rfl (fun _ _ => rfl) fun s t h w => by subst h; exact Tryd.strings_Contains_one s 47 w
theorem index_ok : PureOk Tryd.prog 52 (two (fun s t => ∃ c, t = ⟨#[c]⟩) fun s t => .int .i64 (Lib.indexByte s.data.toList (oneB t))) :=
  two_ok Tryd.func52 (by kernel_rfl) rfl (fun _ _ => rfl) fun s t h w => by obtain ⟨c, rfl⟩ := h; exact Tryd.stringslite_Index_one s c w

def wb (c : Int) : Bool := smallB c || digitB c
def wordN (s : ByteArray) : Nat → Nat → Nat
  | 0, i => i
  | d + 1, i => bif wb (bt s i) then wordN s d (i + 1) else i
def wordEnd (s : ByteArray) : Nat := wordN s s.size 0
theorem wordN_le (s : ByteArray) : ∀ d i, i ≤ wordN s d i ∧ wordN s d i ≤ i + d
  | 0, i => ⟨Nat.le_refl _, Nat.le_refl _⟩
  | d + 1, i => by
    have := wordN_le s d (i + 1)
    unfold wordN
    cases wb (bt s i) <;> simp only [cond_true, cond_false] <;> omega
def wordLp : LSpec
  | [(0, .string s), (4, .int .i64 i)], [], K => (i = 0 ∧ s.size < 2 ^ 62) ∧ K (.exit 0) [(0, .string s), (4, .int .i64 (wordEnd s))] []
  | _, _, _ => False
theorem word_rounds (s : ByteArray) (hs : s.size < 2 ^ 62) (K : Kont) : ∀ (d i : Nat), i + d = s.size → K (.exit 0) [(0, .string s), (4, .int .i64 (wordN s d i))] [] →
    rnds Tryd.prog (callOf [(60, pureS smallG), (45, pureS digitG)]) (hints 64) noTab (d + 1) (lp Tryd.f64 2) [(0, .string s), (4, .int .i64 i)] [] K
  | 0, i, hi, hK => by
    refine to (R := bcase (decide ((↑i : Int) < (↑s.size : Int))) (need (decide ((↑i : Int) < (↑s.size : Int))) (True ∧ (bcase (smallB (bt s (↑i : Int))) (rnds Tryd.prog (callOf [(60, (pureS smallG)), (45, (pureS digitG))]) (hints 64) noTab (nat_lit 0) (lp Tryd.f64 2) [(0, (.string s)), (4, (.int .i64 (IntKind.i64.wrap ((↑i : Int) + (1 : Int)))))] [] K) (need (decide ((↑i : Int) < (↑s.size : Int))) (True ∧ (bcase (digitB (bt s (↑i : Int))) (rnds Tryd.prog (callOf [(60, (pureS smallG)), (45, (pureS digitG))]) (hints 64) noTab (nat_lit 0) (lp Tryd.f64 2) [(0, (.string s)), (4, (.int .i64 (IntKind.i64.wrap ((↑i : Int) + (1 : Int)))))] [] K) (K (.exit 0) [(0, (.string s)), (4, (.int .i64 (↑i : Int)))] []))))))) (K (.exit 0) [(0, (.string s)), (4, (.int .i64 (↑i : Int)))] [])) (by kernel_rfl) ?_
    exact bcase_f (by simp; omega) hK
  | d + 1, i, hi, hK => by
    have hw : IntKind.i64.wrap ((i : Int) + 1) = ((i + 1 : Nat) : Int) := wrap_id (by omega) (by omega)
    have ih := word_rounds s hs K d (i + 1) (by omega)
    unfold wordN wb at hK
    obtain ⟨n, hn⟩ : ∃ n, n = d + 1 := ⟨_, rfl⟩; rw [← hn] at ih ⊢
    refine to (R := bcase (decide ((↑i : Int) < (↑s.size : Int))) (need (decide ((↑i : Int) < (↑s.size : Int))) (True ∧ (bcase (smallB (bt s (↑i : Int))) (rnds Tryd.prog (callOf [(60, (pureS smallG)), (45, (pureS digitG))]) (hints 64) noTab n (lp Tryd.f64 2) [(0, (.string s)), (4, (.int .i64 (IntKind.i64.wrap ((↑i : Int) + (1 : Int)))))] [] K) (need (decide ((↑i : Int) < (↑s.size : Int))) (True ∧ (bcase (digitB (bt s (↑i : Int))) (rnds Tryd.prog (callOf [(60, (pureS smallG)), (45, (pureS digitG))]) (hints 64) noTab n (lp Tryd.f64 2) [(0, (.string s)), (4, (.int .i64 (IntKind.i64.wrap ((↑i : Int) + (1 : Int)))))] [] K) (K (.exit 0) [(0, (.string s)), (4, (.int .i64 (↑i : Int)))] []))))))) (K (.exit 0) [(0, (.string s)), (4, (.int .i64 (↑i : Int)))] [])) (by kernel_rfl) ?_
    rw [hw]
    refine bcase_t (by simp; omega) (need_of (by simp; omega) ⟨trivial, bcase_of (fun a => ?_) (fun a => need_of (by simp; omega) ⟨trivial, bcase_of (fun b => ?_) (fun b => ?_)⟩)⟩)
    · try simp only [a, bcase_tt, bcase_ff, Int.toNat_natCast, Bool.not_true, Bool.not_false, cond_true, cond_false, Bool.and_true, Bool.and_false, Bool.true_and, Bool.false_and, Bool.or_true, Bool.or_false, Bool.true_or, Bool.false_or] at hK
      exact ih hK
    · try simp only [a, b, bcase_tt, bcase_ff, Int.toNat_natCast, Bool.not_true, Bool.not_false, cond_true, cond_false, Bool.and_true, Bool.and_false, Bool.true_and, Bool.false_and, Bool.or_true, Bool.or_false, Bool.true_or, Bool.false_or] at hK
      exact ih hK
    · try simp only [a, b, bcase_tt, bcase_ff, Int.toNat_natCast, Bool.not_true, Bool.not_false, cond_true, cond_false, Bool.and_true, Bool.and_false, Bool.true_and, Bool.false_and, Bool.or_true, Bool.or_false, Bool.true_or, Bool.false_or] at hK
      exact hK
theorem wordLp_ok : CodeOk Tryd.prog Tryd.f64.ntmps (.loop (lp Tryd.f64 2)) wordLp := by
  refine loop_ok (call := callOf [(60, pureS smallG), (45, pureS digitG)]) (hint := hints 64) (tb := noTab) hm (callOf_cons small_ok.spec (callOf_cons digit_ok.spec callOf_nil)) (by kernel_rfl) (by repeat' first | exact trivial | constructor |  (intro _ h; cases h)) fun fr H K h => ?_
  unfold wordLp at h
  split at h
  · obtain ⟨⟨rfl, h1⟩, hK⟩ := h
    exact ⟨_, word_rounds _ h1 _ _ 0 (Nat.zero_add _) hK⟩
  · exact h.elim
def tab64 : Tab := ⟨fun | 2 => some wordLp | _ => none, fun _ => none⟩
attribute [irreducible] wordEnd
def wordR (s : ByteArray) : ByteArray := s.extract (wordEnd s) s.size
def wordG : Pure
  | [.string s] => some (s.size < 2 ^ 62, .tuple ⟨[.string (wordR s), .bool (decide ((wordEnd s : Int) > 0))]⟩)
  | _ => none
theorem word_ok : PureOk Tryd.prog 64 wordG := by
  refine .of_run (call := callOf [(60, pureS smallG), (45, pureS digitG)]) (hint := hints 64) (tb := tab64) hm (callOf_cons small_ok.spec (callOf_cons digit_ok.spec callOf_nil)) Tryd.func64 (by kernel_rfl) rfl (by kernel_rfl) (by repeat' first | exact trivial | constructor | (intro _ h; cases h; exact wordLp_ok) | (intro _ h; cases h)) fun args c r h => ?_
  unfold wordG at h
  split at h
  · rename_i s
    cases h
    refine ⟨rfl, fun hs => ⟨rfl, 1, fun K hK => ?_⟩⟩
    have hle : wordEnd s ≤ s.size := by unfold wordEnd; have := (wordN_le s s.size 0).2; omega
    refine to (R := (((0 : Int) = (0 : Int)) ∧ (s.size < 4611686018427387904)) ∧ (need ((decide ((↑(wordEnd s) : Int) ≤ (↑s.size : Int))) && (decide ((↑s.size : Int) ≤ (↑s.size : Int)))) (K (.tuple (Array.mk [(.string (s.extract (↑(wordEnd s) : Int).toNat (↑s.size : Int).toNat)), (.bool (decide ((↑(wordEnd s) : Int) > (0 : Int))))])) []))) (by kernel_rfl) ?_
    exact ⟨⟨rfl, hs⟩, need_of (by simp; omega) (hK [])⟩
  · cases h

/-- A text without what may part two words, at its front. -/
def partedS (s : ByteArray) : ByteArray × Bool :=
  let t : ByteArray := ⟨(Lib.trimLeftB s.data.toList 45).toArray⟩
  bif decide ((t.size : Int) < s.size) then (t, true) else
  bif Lib.hasPrefix s.data.toList [46] then (⟨(Lib.trimPrefix s.data.toList [46]).toArray⟩, true) else
  bif Lib.hasPrefix s.data.toList [95, 95] then (⟨(Lib.trimPrefix s.data.toList [95, 95]).toArray⟩, true) else
  bif Lib.hasPrefix s.data.toList [95] then (⟨(Lib.trimPrefix s.data.toList [95]).toArray⟩, true) else (s, false)
def partedG : Pure
  | [.string s] => some (s.size < 2 ^ 62, .tuple ⟨[.string (partedS s).1, .bool (partedS s).2]⟩)
  | _ => none
theorem pick0 (a b c : ByteArray) : pickS [Value.string a, .string b, .string c] 0 = a := rfl
theorem pick1 (a b c : ByteArray) : pickS [Value.string a, .string b, .string c] 1 = b := rfl
theorem pick2 (a b c : ByteArray) : pickS [Value.string a, .string b, .string c] 2 = c := rfl
theorem parted_ok : PureOk Tryd.prog 65 partedG := by
  refine .of_run (call := callOf [(81, pureS (two (fun s t => t = ⟨#[45]⟩) fun s t => .string ⟨(Lib.trimLeftB s.data.toList 45).toArray⟩)), (28, pureS (two (fun s t => True) fun s t => .tuple #[.string ⟨(Lib.trimPrefix s.data.toList t.data.toList).toArray⟩, .bool (Lib.hasPrefix s.data.toList t.data.toList)]))]) (hint := hints 65) (tb := unrollTab) hm (callOf_cons trimLeft_ok.spec (callOf_cons cutPrefix_ok.spec callOf_nil)) Tryd.func65 (by kernel_rfl) rfl (by kernel_rfl) (by repeat' first | exact trivial | constructor |  (intro _ h; cases h)) fun args c r h => ?_
  unfold partedG at h
  split at h
  · rename_i s
    cases h
    refine ⟨rfl, fun hs => ⟨rfl, 9, fun K hK => ?_⟩⟩
    refine to (R := ((ByteArray.mk #[45]) = (ByteArray.mk #[45])) ∧ (bcase (decide ((↑(ByteArray.mk (Lib.trimLeftB s.data.toList 45).toArray).size : Int) < (↑s.size : Int))) (K (.tuple (Array.mk [(.string (ByteArray.mk (Lib.trimLeftB s.data.toList 45).toArray)), (.bool true)])) []) (True ∧ (bcase (Lib.hasPrefix s.data.toList (pickS (Array.mk [(.string (ByteArray.mk #[46])), (.string (ByteArray.mk #[95, 95])), (.string (ByteArray.mk #[95]))]).toList 0).data.toList) (K (.tuple (Array.mk [(.string (ByteArray.mk (Lib.trimPrefix s.data.toList (pickS (Array.mk [(.string (ByteArray.mk #[46])), (.string (ByteArray.mk #[95, 95])), (.string (ByteArray.mk #[95]))]).toList 0).data.toList).toArray)), (.bool true)])) []) (True ∧ (bcase (Lib.hasPrefix s.data.toList (pickS (Array.mk [(.string (ByteArray.mk #[46])), (.string (ByteArray.mk #[95, 95])), (.string (ByteArray.mk #[95]))]).toList 1).data.toList) (K (.tuple (Array.mk [(.string (ByteArray.mk (Lib.trimPrefix s.data.toList (pickS (Array.mk [(.string (ByteArray.mk #[46])), (.string (ByteArray.mk #[95, 95])), (.string (ByteArray.mk #[95]))]).toList 1).data.toList).toArray)), (.bool true)])) []) (True ∧ (bcase (Lib.hasPrefix s.data.toList (pickS (Array.mk [(.string (ByteArray.mk #[46])), (.string (ByteArray.mk #[95, 95])), (.string (ByteArray.mk #[95]))]).toList 2).data.toList) (K (.tuple (Array.mk [(.string (ByteArray.mk (Lib.trimPrefix s.data.toList (pickS (Array.mk [(.string (ByteArray.mk #[46])), (.string (ByteArray.mk #[95, 95])), (.string (ByteArray.mk #[95]))]).toList 2).data.toList).toArray)), (.bool true)])) []) (K (.tuple (Array.mk [(.string s), (.bool false)])) []))))))))) (by kernel_rfl) ?_
    simp only [pick0, pick1, pick2]
    simp only [partedS] at hK
    refine ⟨trivial, ?_⟩
    repeat' first | with_reducible exact trivial | with_reducible refine need_of (by first | first | with_reducible assumption | (simp only [List.length_cons, List.length_nil, Nat.zero_add, Nat.zero_lt_succ, decide_true, Bool.and_true, Bool.and_self]; done) | with_reducible exact pos_of (by assumption) | with_reducible exact pos_of' (by assumption) | omega | (simp only [ByteArray.size_append, sz1, decide_eq_true_eq, *]; omega) | decide | (simp only [Bool.and_true, Bool.and_eq_true, decide_eq_true_eq, ByteArray.size_extract, ByteArray.size_append, sz1, Int.toNat_natCast, List.getD_eq_getElem?_getD, beq_iff_eq, decide_eq_false_iff_not] at *; omega) | ((repeat' constructor) <;> first | rfl | first | with_reducible assumption | (simp only [List.length_cons, List.length_nil, Nat.zero_add, Nat.zero_lt_succ, decide_true, Bool.and_true, Bool.and_self]; done) | with_reducible exact pos_of (by assumption) | with_reducible exact pos_of' (by assumption) | omega | (simp only [ByteArray.size_append, sz1, decide_eq_true_eq, *]; omega) | decide | (simp only [Bool.and_true, Bool.and_eq_true, decide_eq_true_eq, ByteArray.size_extract, ByteArray.size_append, sz1, Int.toNat_natCast, List.getD_eq_getElem?_getD, beq_iff_eq, decide_eq_false_iff_not] at *; omega))) ?_ | with_reducible refine And.intro (by first | first | with_reducible assumption | (simp only [List.length_cons, List.length_nil, Nat.zero_add, Nat.zero_lt_succ, decide_true, Bool.and_true, Bool.and_self]; done) | with_reducible exact pos_of (by assumption) | with_reducible exact pos_of' (by assumption) | omega | (simp only [ByteArray.size_append, sz1, decide_eq_true_eq, *]; omega) | decide | (simp only [Bool.and_true, Bool.and_eq_true, decide_eq_true_eq, ByteArray.size_extract, ByteArray.size_append, sz1, Int.toNat_natCast, List.getD_eq_getElem?_getD, beq_iff_eq, decide_eq_false_iff_not] at *; omega) | ((repeat' constructor) <;> first | rfl | first | with_reducible assumption | (simp only [List.length_cons, List.length_nil, Nat.zero_add, Nat.zero_lt_succ, decide_true, Bool.and_true, Bool.and_self]; done) | with_reducible exact pos_of (by assumption) | with_reducible exact pos_of' (by assumption) | omega | (simp only [ByteArray.size_append, sz1, decide_eq_true_eq, *]; omega) | decide | (simp only [Bool.and_true, Bool.and_eq_true, decide_eq_true_eq, ByteArray.size_extract, ByteArray.size_append, sz1, Int.toNat_natCast, List.getD_eq_getElem?_getD, beq_iff_eq, decide_eq_false_iff_not] at *; omega))) ?_ | with_reducible refine bcase_not ?_ | with_reducible refine bcase_t rfl ?_ | with_reducible refine bcase_f rfl ?_ | with_reducible refine bcase_t (by assumption) ?_ | with_reducible refine bcase_f (by assumption) ?_ | (with_reducible refine bcase_of (fun hx => ?_) (fun hx => ?_) <;> try simp only [hx, bcase_tt, bcase_ff, Int.toNat_natCast, Bool.not_true, Bool.not_false, cond_true, cond_false, Bool.and_true, Bool.and_false, Bool.true_and, Bool.false_and, Bool.or_true, Bool.or_false, Bool.true_or, Bool.false_or] at hK)
    all_goals exact hK []
  · cases h
theorem wordEnd_le (s : ByteArray) : wordEnd s ≤ s.size := by unfold wordEnd; have := (wordN_le s s.size 0).2; omega
theorem wordR_size (s : ByteArray) : (wordR s).size ≤ s.size := by unfold wordR; rw [ByteArray.size_extract]; omega
theorem mk_size (l : List UInt8) : (ByteArray.mk l.toArray).size = l.length := by simp [ByteArray.size]
theorem trimPrefix_size {s : ByteArray} {p : List UInt8} (hp : 0 < p.length) (h : Lib.hasPrefix s.data.toList p = true) : (ByteArray.mk (Lib.trimPrefix s.data.toList p).toArray).size < s.size := by
  have h1 := (List.isPrefixOf_iff_prefix.1 h).length_le
  rw [mk_size]
  unfold Lib.trimPrefix
  rw [if_pos h, List.length_drop]
  have : s.data.toList.length = s.size := li_size s
  omega
theorem partedS_size (s : ByteArray) (h : (partedS s).2 = true) : (partedS s).1.size < s.size := by
  unfold partedS at h ⊢
  cases h1 : decide (((ByteArray.mk (Lib.trimLeftB s.data.toList 45).toArray).size : Int) < s.size) with
  | true =>
    simp only [h1, cond_true]
    have := of_decide_eq_true h1
    omega
  | false =>
    simp only [h1, cond_false] at h ⊢
    cases h2 : Lib.hasPrefix s.data.toList [46] with
    | true => simp only [h2, cond_true]; exact trimPrefix_size (by simp) h2
    | false =>
      simp only [h2, cond_false] at h ⊢
      cases h3 : Lib.hasPrefix s.data.toList [95, 95] with
      | true => simp only [h3, cond_true]; exact trimPrefix_size (by simp) h3
      | false =>
        simp only [h3, cond_false] at h ⊢
        cases h4 : Lib.hasPrefix s.data.toList [95] with
        | true => simp only [h4, cond_true]; exact trimPrefix_size (by simp) h4
        | false => rw [h4] at h; cases h
theorem partedS_le (s : ByteArray) : (partedS s).1.size ≤ s.size := by
  cases h : (partedS s).2 with
  | true => exact Nat.le_of_lt (partedS_size s h)
  | false =>
    unfold partedS at h ⊢
    cases h1 : decide (((ByteArray.mk (Lib.trimLeftB s.data.toList 45).toArray).size : Int) < s.size) <;> simp only [h1, cond_true, cond_false] at h ⊢
    · cases h2 : Lib.hasPrefix s.data.toList [46] <;> simp only [h2, cond_true, cond_false] at h ⊢
      · cases h3 : Lib.hasPrefix s.data.toList [95, 95] <;> simp only [h3, cond_true, cond_false] at h ⊢
        · cases h4 : Lib.hasPrefix s.data.toList [95] <;> simp only [h4, cond_true, cond_false] at h ⊢
          · exact Nat.le_refl _
          · cases h
        · cases h
      · cases h
    · cases h
/-- Whether a text's words, and what parts them, are a path's part. -/
def partP : Nat → ByteArray → Bool → Bool
  | 0, _, ok => ok
  | d + 1, s, ok => bif ok && !isS s [] then (bif (partedS s).2 then partP d (wordR (partedS s).1) (decide ((wordEnd (partedS s).1 : Int) > 0)) else false) else ok
def partPS (s : ByteArray) : Bool := partP s.size (wordR s) (decide ((wordEnd s : Int) > 0))
def partPLp : LSpec
  | [(0, .string s), (3, .bool ok)], [], K => (s.size < 2 ^ 61) ∧ ∀ d, s.size ≤ d → K (.exit 0) [(3, .bool (partP d s ok))] []
  | _, _, _ => False
theorem partP_rounds (K : Kont) : ∀ (d : Nat) (s : ByteArray) (ok : Bool), (ok = true → s.size ≤ d) → s.size < 2 ^ 61 → K (.exit 0) [(3, .bool (partP d s ok))] [] →
    rnds Tryd.prog (callOf [(64, pureS wordG), (65, pureS partedG)]) (hints 50) noTab (d + 1) (lp Tryd.f50 2) [(0, .string s), (3, .bool ok)] [] K
  | 0, s, ok, hd, hs, hK => by
    refine to (R := bcase ok (bcase (!(s.toList == (ByteArray.mk #[]).toList)) ((s.size < 4611686018427387904) ∧ (bcase (partedS s).snd (((partedS s).fst.size < 4611686018427387904) ∧ (rnds Tryd.prog (callOf [(64, (pureS wordG)), (65, (pureS partedG))]) (hints 50) noTab (nat_lit 0) (lp Tryd.f50 2) [(0, (.string (wordR (partedS s).fst))), (3, (.bool (decide ((↑(wordEnd (partedS s).fst) : Int) > (0 : Int)))))] [] K)) (rnds Tryd.prog (callOf [(64, (pureS wordG)), (65, (pureS partedG))]) (hints 50) noTab (nat_lit 0) (lp Tryd.f50 2) [(0, (.string (partedS s).fst)), (3, (.bool (partedS s).snd))] [] K))) (K (.exit 0) [(3, (.bool ok))] [])) (K (.exit 0) [(3, (.bool ok))] [])) (by kernel_rfl) ?_
    refine bcase_of (fun a => ?_) (fun a => hK)
    have := hd a
    have h0 : (s.toList == (ByteArray.mk #[]).toList) = true := by rw [toList_empty]; exact beq_iff_eq.2 (by omega)
    exact bcase_not (bcase_t h0 hK)
  | d + 1, s, ok, hd, hs, hK => by
    have ih := fun (s2 : ByteArray) (ok2 : Bool) (h : ok2 = true → s2.size ≤ d) (h2 : s2.size < 2 ^ 61) => partP_rounds K d s2 ok2 h h2
    have hps := partedS_size s
    have hwr := wordR_size (partedS s).1
    unfold partP at hK
    simp only [isS] at hK
    obtain ⟨n, hn⟩ : ∃ n, n = d + 1 := ⟨_, rfl⟩; rw [← hn] at ih ⊢
    refine to (R := bcase ok (bcase (!(s.toList == (ByteArray.mk #[]).toList)) ((s.size < 4611686018427387904) ∧ (bcase (partedS s).snd (((partedS s).fst.size < 4611686018427387904) ∧ (rnds Tryd.prog (callOf [(64, (pureS wordG)), (65, (pureS partedG))]) (hints 50) noTab n (lp Tryd.f50 2) [(0, (.string (wordR (partedS s).fst))), (3, (.bool (decide ((↑(wordEnd (partedS s).fst) : Int) > (0 : Int)))))] [] K)) (rnds Tryd.prog (callOf [(64, (pureS wordG)), (65, (pureS partedG))]) (hints 50) noTab n (lp Tryd.f50 2) [(0, (.string (partedS s).fst)), (3, (.bool (partedS s).snd))] [] K))) (K (.exit 0) [(3, (.bool ok))] [])) (K (.exit 0) [(3, (.bool ok))] [])) (by kernel_rfl) ?_
    refine bcase_of (fun a => bcase_not (bcase_of (fun b => ?_) (fun b => ⟨?_, bcase_of (fun e => ⟨?_, ?_⟩) (fun e => ?_)⟩))) (fun a => ?_)
    · try simp only [a, b, bcase_tt, bcase_ff, Int.toNat_natCast, Bool.not_true, Bool.not_false, cond_true, cond_false, Bool.and_true, Bool.and_false, Bool.true_and, Bool.false_and, Bool.or_true, Bool.or_false, Bool.true_or, Bool.false_or] at hK
      rw [a]; exact hK
    · omega
    · have := hps e; omega
    · try simp only [a, b, e, bcase_tt, bcase_ff, Int.toNat_natCast, Bool.not_true, Bool.not_false, cond_true, cond_false, Bool.and_true, Bool.and_false, Bool.true_and, Bool.false_and, Bool.or_true, Bool.or_false, Bool.true_or, Bool.false_or] at hK
      have := hps e
      have := hd a
      exact ih _ _ (fun _ => by omega) (by omega) hK
    · try simp only [a, b, e, bcase_tt, bcase_ff, Int.toNat_natCast, Bool.not_true, Bool.not_false, cond_true, cond_false, Bool.and_true, Bool.and_false, Bool.true_and, Bool.false_and, Bool.or_true, Bool.or_false, Bool.true_or, Bool.false_or] at hK
      rw [e]
      have hf : partP d (partedS s).1 false = false := by cases d <;> rfl
      exact ih _ _ (fun h => by cases h) (by have := partedS_le s; omega) (by rw [hf]; exact hK)
    · try simp only [a, bcase_tt, bcase_ff, Int.toNat_natCast, Bool.not_true, Bool.not_false, cond_true, cond_false, Bool.and_true, Bool.and_false, Bool.true_and, Bool.false_and, Bool.or_true, Bool.or_false, Bool.true_or, Bool.false_or] at hK
      rw [a]; exact hK
theorem partPLp_ok : CodeOk Tryd.prog Tryd.f50.ntmps (.loop (lp Tryd.f50 2)) partPLp := by
  refine loop_ok (call := callOf [(64, pureS wordG), (65, pureS partedG)]) (hint := hints 50) (tb := noTab) hm (callOf_cons word_ok.spec (callOf_cons parted_ok.spec callOf_nil)) (by kernel_rfl) (by repeat' first | exact trivial | constructor |  (intro _ h; cases h)) fun fr H K h => ?_
  unfold partPLp at h
  split at h
  · rename_i s ok
    obtain ⟨h1, hK⟩ := h
    exact ⟨_, partP_rounds _ s.size s ok (fun _ => Nat.le_refl _) h1 (hK _ (Nat.le_refl _))⟩
  · exact h.elim
def tab50 : Tab := ⟨fun | 2 => some partPLp | _ => none, fun _ => none⟩
theorem partP_any : ∀ (d e : Nat) (s : ByteArray) (ok : Bool), (ok = true → s.size ≤ d) → (ok = true → s.size ≤ e) → partP d s ok = partP e s ok
  | d, e, s, false, _, _ => by
    have : ∀ d, partP d s false = false := fun d => by cases d <;> rfl
    rw [this, this]
  | 0, e, s, true, hd, _ => by
    have h0 : (s.toList == (ByteArray.mk #[]).toList) = true := by rw [toList_empty]; have := hd rfl; exact beq_iff_eq.2 (by omega)
    cases e with
    | zero => rfl
    | succ e => unfold partP; rw [show isS s [] = true from h0]; rfl
  | d + 1, 0, s, true, _, he => by
    have h0 : (s.toList == (ByteArray.mk #[]).toList) = true := by rw [toList_empty]; have := he rfl; exact beq_iff_eq.2 (by omega)
    unfold partP; rw [show isS s [] = true from h0]; rfl
  | d + 1, e + 1, s, true, hd, he => by
    unfold partP
    cases hp : (partedS s).2 with
    | false => rfl
    | true =>
      have h1 := partedS_size s hp
      have h2 := wordR_size (partedS s).1
      have := hd rfl
      have := he rfl
      rw [partP_any d e _ _ (fun _ => by omega) (fun _ => by omega)]
attribute [irreducible] partedS wordR partP
def partPG : Pure
  | [.string s] => some (s.size < 2 ^ 60, .bool (partPS s))
  | _ => none
theorem partP_ok : PureOk Tryd.prog 50 partPG := by
  refine .of_run (call := callOf [(64, pureS wordG), (65, pureS partedG)]) (hint := hints 50) (tb := tab50) hm (callOf_cons word_ok.spec (callOf_cons parted_ok.spec callOf_nil)) Tryd.func50 (by kernel_rfl) rfl (by kernel_rfl) (by repeat' first | exact trivial | constructor | (intro _ h; cases h; exact partPLp_ok) | (intro _ h; cases h)) fun args c r h => ?_
  unfold partPG at h
  split at h
  · rename_i s
    cases h
    refine ⟨rfl, fun hs => ⟨rfl, 1, fun K hK => ?_⟩⟩
    have h1 := wordR_size s
    refine to (R := (s.size < 4611686018427387904) ∧ (((wordR s).size < 2305843009213693952) ∧ (∀ (d : Nat), (((wordR s).size ≤ d) → (K (.bool (partP d (wordR s) (decide ((↑(wordEnd s) : Int) > (0 : Int))))) []))))) (by kernel_rfl) ?_
    refine ⟨by omega, by omega, fun d hd => ?_⟩
    have := hK []
    unfold partPS at this
    rw [partP_any d s.size _ _ (fun _ => hd) (fun _ => h1)]
    exact this
  · cases h
end Go.Proofs.YtofcjkbgieenlaaDoor.PM

namespace Go.Proofs.YtofcjkbgieenlaaDoor.PM
open Go Go.Proofs Go.RowKit
set_option maxRecDepth 100000
set_option linter.unusedVariables false
set_option linter.unusedSimpArgs false

/-- Is a byte, at a place, none of a tag? -/
def tagBad (c i : Int) : Bool := !letterB c && (!digitB c && (c != 95 && (i == 0 || (c != 46 && c != 45))))
def tagFrom (s : ByteArray) : Nat → Nat → Bool
  | 0, _ => true
  | d + 1, i => bif tagBad (bt s i) i then false else tagFrom s d (i + 1)
def tagLp : LSpec
  | [(0, .string s), (6, .int .i64 n), (7, .int .i64 i)], [], K => (n = s.size ∧ i = 0 ∧ s.size < 2 ^ 62) ∧ bcase (tagFrom s s.size 0) (K (.exit 0) [(0, .string s)] []) (K .ret [(2, .bool false)] [])
  | _, _, _ => False
theorem tag_rounds (s : ByteArray) (hs : s.size < 2 ^ 62) (K : Kont) : ∀ (d i : Nat), i + d = s.size → bcase (tagFrom s d i) (K (.exit 0) [(0, .string s)] []) (K .ret [(2, .bool false)] []) →
    rnds Tryd.prog (callOf [(44, pureS letterG), (45, pureS digitG)]) (hints 29) noTab (d + 1) (lp Tryd.f29 2) [(0, .string s), (6, .int .i64 s.size), (7, .int .i64 i)] [] K
  | 0, i, hi, hK => by
    refine to (R := bcase (decide ((↑i : Int) < (↑s.size : Int))) (need (decide ((↑i : Int) < (↑s.size : Int))) (True ∧ (bcase (!(letterB (bt s (↑i : Int)))) (True ∧ (bcase (!(digitB (bt s (↑i : Int)))) (bcase ((bt s (↑i : Int)) != (95 : Int)) (bcase ((↑i : Int) == (0 : Int)) (K .ret [(2, (.bool false))] []) (bcase ((bt s (↑i : Int)) != (46 : Int)) (bcase ((bt s (↑i : Int)) != (45 : Int)) (K .ret [(2, (.bool false))] []) (rnds Tryd.prog (callOf [(44, (pureS letterG)), (45, (pureS digitG))]) (hints 29) noTab (nat_lit 0) (lp Tryd.f29 2) [(0, (.string s)), (6, (.int .i64 (↑s.size : Int))), (7, (.int .i64 (IntKind.i64.wrap ((↑i : Int) + (1 : Int)))))] [] K)) (rnds Tryd.prog (callOf [(44, (pureS letterG)), (45, (pureS digitG))]) (hints 29) noTab (nat_lit 0) (lp Tryd.f29 2) [(0, (.string s)), (6, (.int .i64 (↑s.size : Int))), (7, (.int .i64 (IntKind.i64.wrap ((↑i : Int) + (1 : Int)))))] [] K))) (rnds Tryd.prog (callOf [(44, (pureS letterG)), (45, (pureS digitG))]) (hints 29) noTab (nat_lit 0) (lp Tryd.f29 2) [(0, (.string s)), (6, (.int .i64 (↑s.size : Int))), (7, (.int .i64 (IntKind.i64.wrap ((↑i : Int) + (1 : Int)))))] [] K)) (rnds Tryd.prog (callOf [(44, (pureS letterG)), (45, (pureS digitG))]) (hints 29) noTab (nat_lit 0) (lp Tryd.f29 2) [(0, (.string s)), (6, (.int .i64 (↑s.size : Int))), (7, (.int .i64 (IntKind.i64.wrap ((↑i : Int) + (1 : Int)))))] [] K))) (rnds Tryd.prog (callOf [(44, (pureS letterG)), (45, (pureS digitG))]) (hints 29) noTab (nat_lit 0) (lp Tryd.f29 2) [(0, (.string s)), (6, (.int .i64 (↑s.size : Int))), (7, (.int .i64 (IntKind.i64.wrap ((↑i : Int) + (1 : Int)))))] [] K)))) (K (.exit 0) [(0, (.string s))] [])) (by kernel_rfl) ?_
    exact bcase_f (by simp; omega) hK
  | d + 1, i, hi, hK => by
    have hw : IntKind.i64.wrap ((i : Int) + 1) = ((i + 1 : Nat) : Int) := wrap_id (by omega) (by omega)
    have hin : (decide ((0 : Int) ≤ (i : Int)) && decide ((i : Int) < (s.size : Int))) = true := by simp; omega
    have hin2 : decide ((i : Int) < (s.size : Int)) = true := by simp; omega
    have ih := tag_rounds s hs K d (i + 1) (by omega)
    simp only [tagFrom, tagBad] at hK
    obtain ⟨n, hn⟩ : ∃ n, n = d + 1 := ⟨_, rfl⟩; rw [← hn] at ih ⊢
    refine to (R := bcase (decide ((↑i : Int) < (↑s.size : Int))) (need (decide ((↑i : Int) < (↑s.size : Int))) (True ∧ (bcase (!(letterB (bt s (↑i : Int)))) (True ∧ (bcase (!(digitB (bt s (↑i : Int)))) (bcase ((bt s (↑i : Int)) != (95 : Int)) (bcase ((↑i : Int) == (0 : Int)) (K .ret [(2, (.bool false))] []) (bcase ((bt s (↑i : Int)) != (46 : Int)) (bcase ((bt s (↑i : Int)) != (45 : Int)) (K .ret [(2, (.bool false))] []) (rnds Tryd.prog (callOf [(44, (pureS letterG)), (45, (pureS digitG))]) (hints 29) noTab n (lp Tryd.f29 2) [(0, (.string s)), (6, (.int .i64 (↑s.size : Int))), (7, (.int .i64 (IntKind.i64.wrap ((↑i : Int) + (1 : Int)))))] [] K)) (rnds Tryd.prog (callOf [(44, (pureS letterG)), (45, (pureS digitG))]) (hints 29) noTab n (lp Tryd.f29 2) [(0, (.string s)), (6, (.int .i64 (↑s.size : Int))), (7, (.int .i64 (IntKind.i64.wrap ((↑i : Int) + (1 : Int)))))] [] K))) (rnds Tryd.prog (callOf [(44, (pureS letterG)), (45, (pureS digitG))]) (hints 29) noTab n (lp Tryd.f29 2) [(0, (.string s)), (6, (.int .i64 (↑s.size : Int))), (7, (.int .i64 (IntKind.i64.wrap ((↑i : Int) + (1 : Int)))))] [] K)) (rnds Tryd.prog (callOf [(44, (pureS letterG)), (45, (pureS digitG))]) (hints 29) noTab n (lp Tryd.f29 2) [(0, (.string s)), (6, (.int .i64 (↑s.size : Int))), (7, (.int .i64 (IntKind.i64.wrap ((↑i : Int) + (1 : Int)))))] [] K))) (rnds Tryd.prog (callOf [(44, (pureS letterG)), (45, (pureS digitG))]) (hints 29) noTab n (lp Tryd.f29 2) [(0, (.string s)), (6, (.int .i64 (↑s.size : Int))), (7, (.int .i64 (IntKind.i64.wrap ((↑i : Int) + (1 : Int)))))] [] K)))) (K (.exit 0) [(0, (.string s))] [])) (by kernel_rfl) ?_
    rw [hw]
    repeat' first | with_reducible exact trivial | with_reducible refine need_of (by first | first | with_reducible assumption | (simp only [List.length_cons, List.length_nil, Nat.zero_add, Nat.zero_lt_succ, decide_true, Bool.and_true, Bool.and_self]; done) | with_reducible exact pos_of (by assumption) | with_reducible exact pos_of' (by assumption) | omega | (simp only [ByteArray.size_append, sz1, decide_eq_true_eq, *]; omega) | decide | (simp only [Bool.and_true, Bool.and_eq_true, decide_eq_true_eq, ByteArray.size_extract, ByteArray.size_append, sz1, Int.toNat_natCast, List.getD_eq_getElem?_getD, beq_iff_eq, decide_eq_false_iff_not] at *; omega) | ((repeat' constructor) <;> first | rfl | first | with_reducible assumption | (simp only [List.length_cons, List.length_nil, Nat.zero_add, Nat.zero_lt_succ, decide_true, Bool.and_true, Bool.and_self]; done) | with_reducible exact pos_of (by assumption) | with_reducible exact pos_of' (by assumption) | omega | (simp only [ByteArray.size_append, sz1, decide_eq_true_eq, *]; omega) | decide | (simp only [Bool.and_true, Bool.and_eq_true, decide_eq_true_eq, ByteArray.size_extract, ByteArray.size_append, sz1, Int.toNat_natCast, List.getD_eq_getElem?_getD, beq_iff_eq, decide_eq_false_iff_not] at *; omega))) ?_ | with_reducible refine And.intro (by first | first | with_reducible assumption | (simp only [List.length_cons, List.length_nil, Nat.zero_add, Nat.zero_lt_succ, decide_true, Bool.and_true, Bool.and_self]; done) | with_reducible exact pos_of (by assumption) | with_reducible exact pos_of' (by assumption) | omega | (simp only [ByteArray.size_append, sz1, decide_eq_true_eq, *]; omega) | decide | (simp only [Bool.and_true, Bool.and_eq_true, decide_eq_true_eq, ByteArray.size_extract, ByteArray.size_append, sz1, Int.toNat_natCast, List.getD_eq_getElem?_getD, beq_iff_eq, decide_eq_false_iff_not] at *; omega) | ((repeat' constructor) <;> first | rfl | first | with_reducible assumption | (simp only [List.length_cons, List.length_nil, Nat.zero_add, Nat.zero_lt_succ, decide_true, Bool.and_true, Bool.and_self]; done) | with_reducible exact pos_of (by assumption) | with_reducible exact pos_of' (by assumption) | omega | (simp only [ByteArray.size_append, sz1, decide_eq_true_eq, *]; omega) | decide | (simp only [Bool.and_true, Bool.and_eq_true, decide_eq_true_eq, ByteArray.size_extract, ByteArray.size_append, sz1, Int.toNat_natCast, List.getD_eq_getElem?_getD, beq_iff_eq, decide_eq_false_iff_not] at *; omega))) ?_ | with_reducible refine bcase_not ?_ | with_reducible refine bcase_t rfl ?_ | with_reducible refine bcase_f rfl ?_ | with_reducible refine bcase_t (by assumption) ?_ | with_reducible refine bcase_f (by assumption) ?_ | (with_reducible refine bcase_of (fun hx => ?_) (fun hx => ?_) <;> try simp only [hx, bcase_tt, bcase_ff, Int.toNat_natCast, Bool.not_true, Bool.not_false, cond_true, cond_false, Bool.and_true, Bool.and_false, Bool.true_and, Bool.false_and, Bool.or_true, Bool.or_false, Bool.true_or, Bool.false_or] at hK)
    all_goals first | exact hK | exact ih hK
theorem tagLp_ok : CodeOk Tryd.prog Tryd.f29.ntmps (.loop (lp Tryd.f29 2)) tagLp := by
  refine loop_ok (call := callOf [(44, pureS letterG), (45, pureS digitG)]) (hint := hints 29) (tb := noTab) hm (callOf_cons letter_ok.spec (callOf_cons digit_ok.spec callOf_nil)) (by kernel_rfl) (by repeat' first | exact trivial | constructor |  (intro _ h; cases h)) fun fr H K h => ?_
  unfold tagLp at h
  split at h
  · obtain ⟨⟨rfl, rfl, h1⟩, hK⟩ := h
    exact ⟨_, tag_rounds _ h1 _ _ 0 (Nat.zero_add _) hK⟩
  · exact h.elim
def tab29 : Tab := ⟨fun | 2 => some tagLp | _ => none, fun _ => none⟩
def tagS (s : ByteArray) : Bool := tagFrom s s.size 0 && (!isS s [] && decide ((s.size : Int) ≤ 32))
def tagG : Pure
  | [.string s] => some (s.size < 2 ^ 62, .bool (tagS s))
  | _ => none
attribute [irreducible] tagFrom
theorem tag_ok : PureOk Tryd.prog 29 tagG := by
  refine .of_run (call := callOf [(44, pureS letterG), (45, pureS digitG)]) (hint := hints 29) (tb := tab29) hm (callOf_cons letter_ok.spec (callOf_cons digit_ok.spec callOf_nil)) Tryd.func29 (by kernel_rfl) rfl (by kernel_rfl) (by repeat' first | exact trivial | constructor | (intro _ h; cases h; exact tagLp_ok) | (intro _ h; cases h)) fun args c r h => ?_
  unfold tagG at h
  split at h
  · rename_i s
    cases h
    refine ⟨rfl, fun hs => ⟨rfl, 1, fun K hK => ?_⟩⟩
    simp only [tagS, isS] at hK
    refine to (R := (((↑s.size : Int) = (↑s.size : Int)) ∧ (((0 : Int) = (0 : Int)) ∧ (s.size < 4611686018427387904))) ∧ (bcase (tagFrom s s.size 0) (bcase (!(s.toList == (ByteArray.mk #[]).toList)) (K (.bool (decide ((↑s.size : Int) ≤ (32 : Int)))) []) (K (.bool false) [])) (K (.bool false) []))) (by kernel_rfl) ?_
    refine ⟨⟨rfl, rfl, hs⟩, ?_⟩
    repeat' first | with_reducible exact trivial | with_reducible refine need_of (by first | first | with_reducible assumption | (simp only [List.length_cons, List.length_nil, Nat.zero_add, Nat.zero_lt_succ, decide_true, Bool.and_true, Bool.and_self]; done) | with_reducible exact pos_of (by assumption) | with_reducible exact pos_of' (by assumption) | omega | (simp only [ByteArray.size_append, sz1, decide_eq_true_eq, *]; omega) | decide | (simp only [Bool.and_true, Bool.and_eq_true, decide_eq_true_eq, ByteArray.size_extract, ByteArray.size_append, sz1, Int.toNat_natCast, List.getD_eq_getElem?_getD, beq_iff_eq, decide_eq_false_iff_not] at *; omega) | ((repeat' constructor) <;> first | rfl | first | with_reducible assumption | (simp only [List.length_cons, List.length_nil, Nat.zero_add, Nat.zero_lt_succ, decide_true, Bool.and_true, Bool.and_self]; done) | with_reducible exact pos_of (by assumption) | with_reducible exact pos_of' (by assumption) | omega | (simp only [ByteArray.size_append, sz1, decide_eq_true_eq, *]; omega) | decide | (simp only [Bool.and_true, Bool.and_eq_true, decide_eq_true_eq, ByteArray.size_extract, ByteArray.size_append, sz1, Int.toNat_natCast, List.getD_eq_getElem?_getD, beq_iff_eq, decide_eq_false_iff_not] at *; omega))) ?_ | with_reducible refine And.intro (by first | first | with_reducible assumption | (simp only [List.length_cons, List.length_nil, Nat.zero_add, Nat.zero_lt_succ, decide_true, Bool.and_true, Bool.and_self]; done) | with_reducible exact pos_of (by assumption) | with_reducible exact pos_of' (by assumption) | omega | (simp only [ByteArray.size_append, sz1, decide_eq_true_eq, *]; omega) | decide | (simp only [Bool.and_true, Bool.and_eq_true, decide_eq_true_eq, ByteArray.size_extract, ByteArray.size_append, sz1, Int.toNat_natCast, List.getD_eq_getElem?_getD, beq_iff_eq, decide_eq_false_iff_not] at *; omega) | ((repeat' constructor) <;> first | rfl | first | with_reducible assumption | (simp only [List.length_cons, List.length_nil, Nat.zero_add, Nat.zero_lt_succ, decide_true, Bool.and_true, Bool.and_self]; done) | with_reducible exact pos_of (by assumption) | with_reducible exact pos_of' (by assumption) | omega | (simp only [ByteArray.size_append, sz1, decide_eq_true_eq, *]; omega) | decide | (simp only [Bool.and_true, Bool.and_eq_true, decide_eq_true_eq, ByteArray.size_extract, ByteArray.size_append, sz1, Int.toNat_natCast, List.getD_eq_getElem?_getD, beq_iff_eq, decide_eq_false_iff_not] at *; omega))) ?_ | with_reducible refine bcase_not ?_ | with_reducible refine bcase_t rfl ?_ | with_reducible refine bcase_f rfl ?_ | with_reducible refine bcase_t (by assumption) ?_ | with_reducible refine bcase_f (by assumption) ?_ | (with_reducible refine bcase_of (fun hx => ?_) (fun hx => ?_) <;> try simp only [hx, bcase_tt, bcase_ff, Int.toNat_natCast, Bool.not_true, Bool.not_false, cond_true, cond_false, Bool.and_true, Bool.and_false, Bool.true_and, Bool.false_and, Bool.or_true, Bool.or_false, Bool.true_or, Bool.false_or] at hK)
    all_goals (first | done | exact hK [])
  · cases h

/-- A text cut in two. -/
def cutF (s : ByteArray) (c : UInt8) : Bool := decide (Lib.indexByte s.data.toList c ≥ 0)
def cutA (s : ByteArray) (c : UInt8) : ByteArray := bif cutF s c then s.extract 0 (Lib.indexByte s.data.toList c).toNat else s
def cutZ (s : ByteArray) (c : UInt8) : ByteArray := bif cutF s c then s.extract ((Lib.indexByte s.data.toList c).toNat + 1) s.size else ⟨#[]⟩
abbrev cutV (s : ByteArray) (c : UInt8) : Value := .tuple ⟨[.string (cutA s c), .string (cutZ s c), .bool (cutF s c)]⟩
abbrev cutG2 : Pure := two (fun s t => (∃ c, t = ⟨#[c]⟩) ∧ s.size < 2 ^ 40) fun s t => cutV s (oneB t)
theorem indexByte_le (c : UInt8) : ∀ l : List UInt8, -1 ≤ Lib.indexByte l c ∧ Lib.indexByte l c < l.length
  | [] => by simp [Lib.indexByte]
  | b :: l => by
    have := indexByte_le c l
    unfold Lib.indexByte
    split
    · simp only [List.length_cons]; omega
    · split <;> simp only [List.length_cons] <;> omega
theorem cut36_ok : PureOk Tryd.prog 36 cutG2 := by
  refine .of_run (call := callOf [(52, pureS (two (fun s t => ∃ c, t = ⟨#[c]⟩) fun s t => .int .i64 (Lib.indexByte s.data.toList (oneB t))))]) (hint := hints 36) (tb := noTab) hm (callOf_cons index_ok.spec callOf_nil) Tryd.func36 (by kernel_rfl) rfl (by kernel_rfl) (by repeat' first | exact trivial | constructor |  (intro _ h; cases h)) fun args c r h => ?_
  unfold cutG2 two at h
  split at h
  · rename_i s t
    cases h
    refine ⟨rfl, fun hs => ⟨rfl, 1, fun K hK => ?_⟩⟩
    obtain ⟨⟨c, rfl⟩, hs⟩ : (∃ c, t = ⟨#[c]⟩) ∧ s.size < 2 ^ 40 := hs
    have hi := indexByte_le c s.data.toList
    have hl : s.data.toList.length = s.size := li_size s
    have ho : oneB (ByteArray.mk #[c]) = c := rfl
    have hz : (ByteArray.mk #[c]).size = 1 := rfl
    simp only [ho, cutV, cutA, cutZ, cutF] at hK
    refine to (R := (∃ (c_1 : UInt8), ((ByteArray.mk #[c]) = (ByteArray.mk #[c_1]))) ∧ (bcase (decide ((Lib.indexByte s.data.toList (oneB (ByteArray.mk #[c]))) ≥ (0 : Int))) (need ((decide ((0 : Int) ≤ (Lib.indexByte s.data.toList (oneB (ByteArray.mk #[c]))))) && (decide ((Lib.indexByte s.data.toList (oneB (ByteArray.mk #[c]))) ≤ (↑s.size : Int)))) (need ((decide ((0 : Int) ≤ (IntKind.i64.wrap ((Lib.indexByte s.data.toList (oneB (ByteArray.mk #[c]))) + (↑(ByteArray.mk #[c]).size : Int))))) && ((decide ((IntKind.i64.wrap ((Lib.indexByte s.data.toList (oneB (ByteArray.mk #[c]))) + (↑(ByteArray.mk #[c]).size : Int))) ≤ (↑s.size : Int))) && (decide ((↑s.size : Int) ≤ (↑s.size : Int))))) (K (.tuple (Array.mk [(.string (s.extract 0 (Lib.indexByte s.data.toList (oneB (ByteArray.mk #[c]))).toNat)), (.string (s.extract (IntKind.i64.wrap ((Lib.indexByte s.data.toList (oneB (ByteArray.mk #[c]))) + (↑(ByteArray.mk #[c]).size : Int))).toNat (↑s.size : Int).toNat)), (.bool true)])) []))) (K (.tuple (Array.mk [(.string s), (.string (ByteArray.mk #[])), (.bool false)])) []))) (by kernel_rfl) ?_
    simp only [ho, hz]
    refine ⟨⟨c, rfl⟩, bcase_of (fun h => ?_) (fun h => ?_)⟩
    · have h0 := of_decide_eq_true h
      have hw : IntKind.i64.wrap (Lib.indexByte s.data.toList c + ((1 : Nat) : Int)) = ((Lib.indexByte s.data.toList c).toNat + 1 : Nat) := by
        rw [wrap_id (by omega) (by omega)]; omega
      simp only [h, cond_true] at hK
      rw [hw]
      exact need_of (by simp; omega) (need_of (by simp; omega) (hK []))
    · simp only [h, cond_false] at hK
      exact hK []
  · cases h
attribute [irreducible] cutA cutZ cutF
theorem cut_ok' : PureOk Tryd.prog 18 cutG2 := by
  refine .of_run (call := callOf [(36, pureS cutG2)]) (hint := hints 18) (tb := noTab) hm (callOf_cons cut36_ok.spec callOf_nil) Tryd.func18 (by kernel_rfl) rfl (by kernel_rfl) (by repeat' first | exact trivial | constructor |  (intro _ h; cases h)) fun args c r h => ?_
  unfold cutG2 two at h
  split at h
  · rename_i s t
    cases h
    refine ⟨rfl, fun hs => ⟨rfl, 1, fun K hK => ?_⟩⟩
    refine to (R := ((∃ (c : UInt8), (t = (ByteArray.mk #[c]))) ∧ (s.size < 1099511627776)) ∧ (K (.tuple (Array.mk [(.string (cutA s (oneB t))), (.string (cutZ s (oneB t))), (.bool (cutF s (oneB t)))])) [])) (by kernel_rfl) ?_
    exact ⟨hs, hK []⟩
  · cases h
theorem lastIndex_ok : PureOk Tryd.prog 20 (fun
    | [.string s, .int .u8 c] => some (s.size < 4611686018427387904, .int .i64 (Lib.lastIndexByte s c))
    | _ => none) :=
  .of_shelf Tryd.func20 (by kernel_rfl) rfl fun args c r hg => by
    split at hg
    · rename_i s c
      cases hg
      exact ⟨rfl, fun hcc => ⟨rfl, fun w => (Tryd.strings_LastIndexByte s c hcc w).mono fun e w' k => ⟨k.1, by rw [k.2]; exact Below.refl _ _⟩⟩⟩
    · cases hg
end Go.Proofs.YtofcjkbgieenlaaDoor.PM

set_option linter.unusedVariables false
set_option linter.unusedSimpArgs false
namespace Go.Proofs.YtofcjkbgieenlaaDoor.PM
open Go Go.Proofs Go.Shelf Go.RowKit Go.Lib

def digCells (x : List Int) : Array Value := ⟨digL x⟩
def hexB (n : Int) : UInt8 := (([48, 49, 50, 51, 52, 53, 54, 55, 56, 57, 97, 98, 99, 100, 101, 102] : List UInt8)).getD n.toNat 0
theorem hexT_at (q : Nat) (h : q < 16) : ((⟨#[48, 49, 50, 51, 52, 53, 54, 55, 56, 57, 97, 98, 99, 100, 101, 102]⟩ : ByteArray)[q]?) = some (hexB q) := by
  match q, h with
  | 0, _ | 1, _ | 2, _ | 3, _ | 4, _ | 5, _ | 6, _ | 7, _ | 8, _ | 9, _ | 10, _ | 11, _ | 12, _ | 13, _ | 14, _ | 15, _ => rfl
  | n + 16, h => exact absurd h (by omega)
theorem hexT_at' (q : Nat) (h : q < 16) : ∀ hh, ((⟨#[48, 49, 50, 51, 52, 53, 54, 55, 56, 57, 97, 98, 99, 100, 101, 102]⟩ : ByteArray)[q]'hh) = hexB q := fun hh => by
  have h1 := hexT_at q h
  rw [getElem?_pos (⟨#[48, 49, 50, 51, 52, 53, 54, 55, 56, 57, 97, 98, 99, 100, 101, 102]⟩ : ByteArray) q hh] at h1
  exact Option.some.inj h1
def hexN (x : List Int) (i : Nat) : List UInt8 := (x.take i).flatMap fun c => [hexB (c / 16), hexB (c % 16)]
theorem loadAt (P : Program) (x : List Int) (w : World) : (loadCellsFrom ⟨w.heap.size, 0, none⟩ 0 32 #[]).run P ((w.alloc (.cells (digCells x) 24)).alloc (.cells #[.pointer none, .slice none 0 0] 75)) = .ok (digCells x) ((w.alloc (.cells (digCells x) 24)).alloc (.cells #[.pointer none, .slice none 0 0] 75)) := by
  have hl : (digCells x).toList.length = 32 := rfl
  have := run_loadCells_list (P := P) ((w.alloc (.cells (digCells x) 24)).alloc (.cells #[.pointer none, .slice none 0 0] 75)) ⟨w.heap.size, 0, none⟩ (digCells x).toList (fun j v hv => by
    have hadd : (⟨w.heap.size, 0, none⟩ : Addr).add j = ⟨w.heap.size, j, none⟩ := by unfold Addr.add; split <;> simp_all
    rw [hadd, cell_of_row _ _ j (digCells x) 24 (0, 0) (by rw [Lib.alloc_old _ _ _ (by simp)]; exact heap_alloc_last w _)]
    simpa using hv)
  simpa [loadCells, hl] using this
theorem hexN_len (x : List Int) (i : Nat) : (hexN x i).length ≤ 2 * i := by
  have : ∀ l : List Int, (l.flatMap fun c => [hexB (c / 16), hexB (c % 16)]).length = 2 * l.length := fun l => by
    induction l with
    | nil => rfl
    | cons a l ih => rw [List.flatMap_cons, List.length_append, ih]; simp; omega
  unfold hexN
  rw [this, List.length_take]
  omega
theorem hexN_succ (x : List Int) (i : Nat) (h : i < x.length) : hexN x (i + 1) = hexN x i ++ [hexB (x.getD i 0 / 16)] ++ [hexB (x.getD i 0 % 16)] := by
  unfold hexN
  rw [List.take_add_one, List.flatMap_append, List.getD_eq_getElem?_getD, List.getElem?_eq_getElem h]
  simp
set_option maxHeartbeats 4000000 in
set_option maxRecDepth 1000000 in
theorem digits_any {P : Program} (mixed : P.follows .mixedOrders = true) (h58 : P.funcs[58]? = some Tryd.f58)
    (t3 : P.underlying 3 = some (.int .i64)) (a3 : ∀ w, (isAgg 3).run P w = .ok false w) (z3 : ∀ w, (sizeOf 3).run P w = .ok 1 w) (v3 : ∀ w, (zeroValue 3).run P w = .ok (.int .i64 0) w)
    (t5 : P.underlying 5 = some (.int .u8)) (a5 : ∀ w, (isAgg 5).run P w = .ok false w) (z5 : ∀ w, (sizeOf 5).run P w = .ok 1 w) (v5 : ∀ w, (zeroValue 5).run P w = .ok (.int .u8 0) w)
    (t9 : P.underlying 9 = some .string) (a9 : ∀ w, (isAgg 9).run P w = .ok false w) (z9 : ∀ w, (sizeOf 9).run P w = .ok 1 w) (v9 : ∀ w, (zeroValue 9).run P w = .ok (.string ⟨#[]⟩) w)
    (v75 : ∀ w, (zeroValue 75).run P w = .ok (.agg #[.pointer none, .slice none 0 0]) w)
    (t24 : P.underlying 24 = some (.array 32 5)) (a24 : ∀ w, (isAgg 24).run P w = .ok true w) (z24 : ∀ w, (sizeOf 24).run P w = .ok 32 w) (i24 : (P.info? 24).map (·.size) = some 32)
    (e68 : ∀ args w, (callFunc 68 args).run P w = .ok (.enter 68 args) w) (e69 : ∀ args w, (callFunc 69 args).run P w = .ok (.enter 69 args) w)
    (hW : ∀ (B b : Nat) (bs : List Value) (c : Int) (w : World), Lib.IsBuilder 75 5 B b bs w → bs.length + 1 ≤ 140737488355328 → B ≤ w.heap.size →
      Calls P 68 #[.pointer (some ⟨b, 0, none⟩), .int .u8 c] w fun e w' => e = .returned .nilIface ∧ (Lib.BuilderAt 75 5 B b (.pointer (some ⟨b, 0, none⟩)) (bs ++ [.int .u8 c]) w' ∧ Below B w w'))
    (hS : ∀ (B b : Nat) (l : List UInt8) (w : World), Lib.IsBuilder 75 5 B b (Lib.byteCells l) w → B ≤ w.heap.size → Calls P 69 #[.pointer (some ⟨b, 0, none⟩)] w fun e w' => e = .returned (.string ⟨l.toArray⟩) ∧ Below B w w')
    (x : List Int) (hx : bytesL x) (hxl : x.length = 32) (w : World) : Calls P 58 #[.agg (digCells x)] w fun e w' => e = .returned (.string ⟨(hexN x 32).toArray⟩) ∧ Below w.heap.size w w' := by
  have hlc := run_loadCellsFrom_new (P := P) w 24 (digCells x) 32 rfl
  have hidx : ∀ (i : Nat) (wr : World), i < 32 → (Instr.index 24 (.agg (digCells x)) (.int .i64 i)).run P wr = .ok (.int .u8 (x.getD i 0)) wr := fun i wr hi => by
    have e1 : (digCells x)[i]? = some (.int .u8 (x.getD i 0)) := by
      have : ∀ i, i < 32 → (digL x)[i]? = some (.int .u8 (x.getD i 0)) := by
        unfold digL dig
        intro i hi
        match i, hi with
        | 0, _ | 1, _ | 2, _ | 3, _ | 4, _ | 5, _ | 6, _ | 7, _ | 8, _ | 9, _ | 10, _ | 11, _ | 12, _ | 13, _ | 14, _ | 15, _ | 16, _ | 17, _ | 18, _ | 19, _ | 20, _ | 21, _ | 22, _ | 23, _ | 24, _ | 25, _ | 26, _ | 27, _ | 28, _ | 29, _ | 30, _ | 31, _ => rfl
        | n + 32, h => exact absurd h (by omega)
      rw [digCells, List.getElem?_toArray]
      exact this i hi
    have h1 : (0 : Int) ≤ (i : Int) ∧ (i : Int) < 32 := by omega
    simp [Instr.index, run_underlying t24, asIntOf, h1, part, a5, z5, e1, hi]
  have a24' : Aside (∀ w, (isAgg 24).run P w = .ok true w) := a24
  have z24' : Aside (∀ w, (sizeOf 24).run P w = .ok 32 w) := z24
  have t24' : Aside (P.underlying 24 = some (.array 32 5)) := t24
  clear a24 z24 t24
  go_enter h58, Tryd.ntmps58
  go_wp2
  have hl2 := loadAt P x w
  simp only [a24'.out, z24'.out, Result.andThen, ↓reduceIte, hl2]
  rw [Oper.upon_value]
  go_wp2
  go_loopg [7] 32 (fun g s7 wx => ∃ i : Nat, i + g = 32 ∧ s7 = .int .i64 i ∧ Lib.IsBuilder 75 5 (w.heap.size + 1) (w.heap.size + 1) (Lib.byteCells (hexN x i)) wx ∧ Below w.heap.size w wx ∧ w.heap.size + 2 ≤ wx.heap.size)
  case atStart =>
    refine ⟨0, by omega, rfl, ?_, ((Below.refl _ w).alloc (Nat.le_refl _) _).alloc (by simp) _, by simp⟩
    have := fresh_isBuilder 75 5 (w.alloc (.cells (digCells x) 24))
    simpa [byteCells, hexN] using this
  case round =>
    obtain ⟨i, hig, rfl, hb, hbel, hsz⟩ := hrel
    cases gk with
    | zero =>
      obtain rfl : i = 32 := by omega
      go_wp2_with (go_at_fn 69; refine (hS (w.heap.size + 1) (w.heap.size + 1) _ _ hb (by omega)).mono ?_)
      rintro e w1 ⟨rfl, h1⟩
      intro h1
      go_wp2
      go_ret
      exact ⟨rfl, hbel.trans (h1.mono (by omega))⟩
    | succ g =>
      have hi : i < 32 := by omega
      have hiz : (i : Int) < 32 := by omega
      have hc := hx i
      obtain ⟨c, hce⟩ : ∃ c, c = x.getD i 0 := ⟨_, rfl⟩
      have hidx' := hidx i wr hi
      rw [← hce] at hidx' hc
      obtain ⟨q, hq⟩ : ∃ q : Nat, (q : Int) = c / 16 := ⟨(c / 16).toNat, by omega⟩
      obtain ⟨r, hr⟩ : ∃ r : Nat, (r : Int) = c % 16 := ⟨(c % 16).toNat, by omega⟩
      have q1 : c.tdiv 16 % 256 = (q : Int) := by rw [Int.tdiv_eq_ediv_of_nonneg hc.1]; omega
      have r1 : c.tmod 16 % 256 = (r : Int) := by rw [Int.tmod_eq_emod_of_nonneg hc.1]; omega
      have r1' : c.tmod 16 = (r : Int) := by rw [Int.tmod_eq_emod_of_nonneg hc.1]; omega
      have q2 : q < 16 := by omega
      have r2 : r < 16 := by omega
      have hx1 := hexT_at' q q2
      have hx2 := hexT_at' r r2
      have Hce : Aside (c = x.getD i 0) := hce
      have Hc : Aside (0 ≤ c ∧ c < 256) := hc
      have Hq : Aside ((q : Int) = c / 16) := hq
      have Hr : Aside ((r : Int) = c % 16) := hr
      have hlen : (byteCells (hexN x i)).length ≤ 64 := by rw [byteCells_length]; have := hexN_len x i; omega
      clear hce hc hq hr hidx hx
      go_wp2_with (go_at_fn 68; refine (hW (w.heap.size + 1) (w.heap.size + 1) _ _ _ hb (by omega) (by omega)).mono ?_)
      rintro e w1 ⟨rfl, h1, h2⟩
      go_wp2_with (go_at_fn 68; refine (hW (w.heap.size + 1) (w.heap.size + 1) _ _ _ (Or.inr h1) (by simp only [List.length_append, List.length_singleton]; omega) (by have := h2.size; omega)).mono ?_)
      rintro e w2 ⟨rfl, h3, h4⟩
      go_wp2
      go_roundg g
      case measure => omega
      case rel =>
        refine ⟨i + 1, by omega, by simp, Or.inr ?_, hbel.trans ((h2.trans (h4.mono (by omega))).mono (by omega)), by have := h2.size; have := h4.size; omega⟩
        have e1 : byteCells (hexN x (i + 1)) = byteCells (hexN x i) ++ [Value.int .u8 ((hexB q).toNat : Int)] ++ [Value.int .u8 ((hexB r).toNat : Int)] := by
          rw [hexN_succ x i (by omega), ← Hce.out, ← Hq.out, ← Hr.out]
          simp [byteCells]
        rw [e1]
        simpa [hx1, hx2] using h3
theorem hexS_of (q : Nat) (h : q < 16) : hexS (q : Int) = ⟨#[hexB q]⟩ := by
  match q, h with
  | 0, _ | 1, _ | 2, _ | 3, _ | 4, _ | 5, _ | 6, _ | 7, _ | 8, _ | 9, _ | 10, _ | 11, _ | 12, _ | 13, _ | 14, _ | 15, _ => rfl
  | n + 16, h => exact absurd h (by omega)
theorem tellFrom_hex (x : List Int) (hx : bytesL x) (hl : x.length = 32) : ∀ (d i : Nat), i + d = 32 → tellFrom x d i (headT ++ ⟨(hexN x i).toArray⟩) = headT ++ ⟨(hexN x 32).toArray⟩
  | 0, i, h => by rw [show i = 32 by omega]; rfl
  | d + 1, i, h => by
    have hb := hx i
    obtain ⟨q, hq⟩ : ∃ q : Nat, (q : Int) = x.getD i 0 / 16 := ⟨(x.getD i 0 / 16).toNat, by omega⟩
    obtain ⟨r, hr⟩ : ∃ r : Nat, (r : Int) = x.getD i 0 % 16 := ⟨(x.getD i 0 % 16).toNat, by omega⟩
    unfold tellFrom
    rw [Int.tdiv_eq_ediv_of_nonneg hb.1, Int.tmod_eq_emod_of_nonneg hb.1, ← hq, ← hr, hexS_of q (by omega), hexS_of r (by omega)]
    have e : headT ++ ⟨(hexN x i).toArray⟩ ++ ⟨#[hexB q]⟩ ++ ⟨#[hexB r]⟩ = headT ++ ⟨(hexN x (i + 1)).toArray⟩ := by
      rw [hexN_succ x i (by omega), ← hq, ← hr]
      apply li_inj
      simp only [li_append]
      simp [li]
    rw [e]
    exact tellFrom_hex x hx hl d (i + 1) (by omega)
theorem tellS_hex (x : List Int) (hx : bytesL x) (hl : x.length = 32) : tellS x = headT ++ ⟨(hexN x 32).toArray⟩ := by
  have := tellFrom_hex x hx hl 32 0 rfl
  rw [show headT ++ ⟨(hexN x 0).toArray⟩ = headT from rfl] at this
  exact this
def digitsG : Pure
  | [.agg ⟨l⟩] => bif isDig l then some (bytesL (decI l), .string ⟨(hexN (decI l) 32).toArray⟩) else none
  | _ => none
theorem isDig_len {l : List Value} (h : isDig l = true) : (decI l).length = 32 := by
  simp only [isDig, Bool.and_eq_true] at h
  have h3 := congrArg List.length (enc_decI h.1)
  rw [List.length_map] at h3
  rw [h3]
  exact Nat.eq_of_beq_eq_true h.2
theorem plainL_dig (x : List Int) : plainL (digL x) = true := rfl
theorem digits_ok : PureOk Tryd.prog 58 digitsG :=
  .of_shelf Tryd.func58 (by kernel_rfl) rfl fun args c r hg => by
    unfold digitsG at hg
    split at hg
    · rename_i l
      cases hd : isDig l with
      | false => rw [hd] at hg; cases hg
      | true =>
        rw [hd] at hg
        cases hg
        have hl := isDig_len hd
        have e : l = digL (decI l) := dig_of hd
        refine ⟨by rw [e]; show (plainL (digL (decI l)) && true) = true; rw [plainL_dig]; rfl, fun hcc => ⟨rfl, fun w => ?_⟩⟩
        have X := Tryd.Builder_Extra_169
        have := digits_any (P := Tryd.prog) (by kernel_rfl) Tryd.func58 Tryd.underlying3 Tryd.isAgg3 Tryd.sizeOf3 Tryd.zeroValue3 Tryd.underlying5 Tryd.isAgg5 Tryd.sizeOf5 Tryd.zeroValue5 Tryd.underlying9 Tryd.isAgg9 Tryd.sizeOf9 Tryd.zeroValue9
          Tryd.zeroValue75 Tryd.underlying24 Tryd.isAgg24 Tryd.sizeOf24 (by kernel_rfl) (enters_of Tryd.func68 (by kernel_rfl) rfl) (enters_of Tryd.func69 (by kernel_rfl) rfl) writeByte_ok (fun B b l w h hB => Tryd.Builder_String_any B b l w h hB) (decI l) hcc hl w
        rw [digCells, ← e] at this
        exact this
    · cases hg
end Go.Proofs.YtofcjkbgieenlaaDoor.PM

namespace Go.Proofs.YtofcjkbgieenlaaDoor.PM
open Go Go.Proofs Go.RowKit
set_option maxRecDepth 100000
set_option linter.unusedVariables false
set_option linter.unusedSimpArgs false

theorem text42_ok : PureOk Tryd.prog 42 tellG := by
  refine .of_run (call := callOf [(58, pureS digitsG)]) (hint := hints 42) (tb := noTab) hm (callOf_cons digits_ok.spec callOf_nil) Tryd.func42 (by kernel_rfl) rfl (by kernel_rfl) (by repeat' first | exact trivial | constructor |  (intro _ h; cases h)) fun args c r h => ?_
  unfold tellG at h
  split at h
  · rename_i l
    cases hd : isDig l with
    | false => rw [hd] at h; cases h
    | true =>
      rw [hd] at h
      cases h
      have hl := isDig_len hd
      have e : l = digL (decI l) := dig_of hd
      obtain ⟨x, hx⟩ : ∃ x, x = decI l := ⟨_, rfl⟩
      rw [← hx] at e hl ⊢
      subst e
      refine ⟨by show (plainL (digL x) && true) = true; rw [plainL_dig]; rfl, fun hs => ⟨rfl, 1, fun K hK => ?_⟩⟩
      have hz := hexN_len x 32
      have ht := tellS_hex x hs hl
      have hd2 := decI_digL hl
      have hq : (ByteArray.mk (hexN x 32).toArray).size = (hexN x 32).length := mk_size _
      refine to (R := (bytesL (decI (digL x))) ∧ (need (decide ((7 + (ByteArray.mk (hexN (decI (digL x)) 32).toArray).size) < 9223372036854775808)) (K (.string ((ByteArray.mk #[115, 104, 97, 50, 53, 54, 58]) ++ (ByteArray.mk (hexN (decI (digL x)) 32).toArray))) []))) (by kernel_rfl) ?_
      simp only [hd2]
      refine ⟨hs, need_of (by rw [hq]; simp; omega) ?_⟩
      have := hK []
      rw [ht] at this
      exact this
  · cases h
theorem ptext_ok : PureOk Tryd.prog 26 textG := by
  refine .of_run (call := callOf [(42, pureS tellG)]) (hint := hints 26) (tb := noTab) hm (callOf_cons text42_ok.spec callOf_nil) Tryd.func26 (by kernel_rfl) rfl (by kernel_rfl) (by repeat' first | exact trivial | constructor |  (intro _ h; cases h)) fun args c r h => ?_
  unfold textG at h
  split at h
  · rename_i l
    split at h
    · rename_i r hr
      cases h
      refine ⟨by show (plainL l && true) = true; rw [plain_ref hr]; rfl, fun hs => ⟨rfl, 1, fun K hK => ?_⟩⟩
      obtain ⟨h1, h2⟩ := isRef_some hr
      rw [h1]
      obtain ⟨k1, k2, k3, k4, k5⟩ := hs
      have ht : (tellS r.x).size = 71 := tellS_size k4
      have hd := decI_digL h2
      simp only [textS, isS] at hK
      refine to (R := need (decide ((r.d.size + 1) < 9223372036854775808)) (need (decide (((r.d ++ (ByteArray.mk #[47])).size + r.p.size) < 9223372036854775808)) (bcase (!(r.t.toList == (ByteArray.mk #[]).toList)) (need (decide ((1 + r.t.size) < 9223372036854775808)) (need (decide ((((r.d ++ (ByteArray.mk #[47])) ++ r.p).size + ((ByteArray.mk #[58]) ++ r.t).size) < 9223372036854775808)) (bcase r.b ((bytesL (decI (digL r.x))) ∧ (need (decide ((1 + (tellS (decI (digL r.x))).size) < 9223372036854775808)) (need (decide (((((r.d ++ (ByteArray.mk #[47])) ++ r.p) ++ ((ByteArray.mk #[58]) ++ r.t)).size + ((ByteArray.mk #[64]) ++ (tellS (decI (digL r.x)))).size) < 9223372036854775808)) (K (.string ((((r.d ++ (ByteArray.mk #[47])) ++ r.p) ++ ((ByteArray.mk #[58]) ++ r.t)) ++ ((ByteArray.mk #[64]) ++ (tellS (decI (digL r.x)))))) [])))) (K (.string (((r.d ++ (ByteArray.mk #[47])) ++ r.p) ++ ((ByteArray.mk #[58]) ++ r.t))) [])))) (bcase r.b ((bytesL (decI (digL r.x))) ∧ (need (decide ((1 + (tellS (decI (digL r.x))).size) < 9223372036854775808)) (need (decide ((((r.d ++ (ByteArray.mk #[47])) ++ r.p).size + ((ByteArray.mk #[64]) ++ (tellS (decI (digL r.x)))).size) < 9223372036854775808)) (K (.string (((r.d ++ (ByteArray.mk #[47])) ++ r.p) ++ ((ByteArray.mk #[64]) ++ (tellS (decI (digL r.x)))))) [])))) (K (.string ((r.d ++ (ByteArray.mk #[47])) ++ r.p)) []))))) (by kernel_rfl) ?_
      simp only [hd]
      clear h1 hr hd
      repeat' first | with_reducible exact trivial | with_reducible refine need_of (by first | first | with_reducible assumption | (simp only [List.length_cons, List.length_nil, Nat.zero_add, Nat.zero_lt_succ, decide_true, Bool.and_true, Bool.and_self]; done) | with_reducible exact pos_of (by assumption) | with_reducible exact pos_of' (by assumption) | omega | (simp only [ByteArray.size_append, sz1, decide_eq_true_eq, *]; omega) | decide | (simp only [Bool.and_true, Bool.and_eq_true, decide_eq_true_eq, ByteArray.size_extract, ByteArray.size_append, sz1, Int.toNat_natCast, List.getD_eq_getElem?_getD, beq_iff_eq, decide_eq_false_iff_not] at *; omega) | ((repeat' constructor) <;> first | rfl | first | with_reducible assumption | (simp only [List.length_cons, List.length_nil, Nat.zero_add, Nat.zero_lt_succ, decide_true, Bool.and_true, Bool.and_self]; done) | with_reducible exact pos_of (by assumption) | with_reducible exact pos_of' (by assumption) | omega | (simp only [ByteArray.size_append, sz1, decide_eq_true_eq, *]; omega) | decide | (simp only [Bool.and_true, Bool.and_eq_true, decide_eq_true_eq, ByteArray.size_extract, ByteArray.size_append, sz1, Int.toNat_natCast, List.getD_eq_getElem?_getD, beq_iff_eq, decide_eq_false_iff_not] at *; omega))) ?_ | with_reducible refine And.intro (by first | first | with_reducible assumption | (simp only [List.length_cons, List.length_nil, Nat.zero_add, Nat.zero_lt_succ, decide_true, Bool.and_true, Bool.and_self]; done) | with_reducible exact pos_of (by assumption) | with_reducible exact pos_of' (by assumption) | omega | (simp only [ByteArray.size_append, sz1, decide_eq_true_eq, *]; omega) | decide | (simp only [Bool.and_true, Bool.and_eq_true, decide_eq_true_eq, ByteArray.size_extract, ByteArray.size_append, sz1, Int.toNat_natCast, List.getD_eq_getElem?_getD, beq_iff_eq, decide_eq_false_iff_not] at *; omega) | ((repeat' constructor) <;> first | rfl | first | with_reducible assumption | (simp only [List.length_cons, List.length_nil, Nat.zero_add, Nat.zero_lt_succ, decide_true, Bool.and_true, Bool.and_self]; done) | with_reducible exact pos_of (by assumption) | with_reducible exact pos_of' (by assumption) | omega | (simp only [ByteArray.size_append, sz1, decide_eq_true_eq, *]; omega) | decide | (simp only [Bool.and_true, Bool.and_eq_true, decide_eq_true_eq, ByteArray.size_extract, ByteArray.size_append, sz1, Int.toNat_natCast, List.getD_eq_getElem?_getD, beq_iff_eq, decide_eq_false_iff_not] at *; omega))) ?_ | with_reducible refine bcase_not ?_ | with_reducible refine bcase_t rfl ?_ | with_reducible refine bcase_f rfl ?_ | with_reducible refine bcase_t (by assumption) ?_ | with_reducible refine bcase_f (by assumption) ?_ | (with_reducible refine bcase_of (fun hx => ?_) (fun hx => ?_) <;> try simp only [hx, bcase_tt, bcase_ff, Int.toNat_natCast, Bool.not_true, Bool.not_false, cond_true, cond_false, Bool.and_true, Bool.and_false, Bool.true_and, Bool.false_and, Bool.or_true, Bool.or_false, Bool.true_or, Bool.false_or] at hK)
      all_goals (have := hK []; simp only [ByteArray.append_assoc] at this ⊢; exact this)
    · cases h
  · cases h
end Go.Proofs.YtofcjkbgieenlaaDoor.PM

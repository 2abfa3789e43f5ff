/- Contracts of functions of the reference: part, path, domain. By an AI agent. -/
import Derived.Test.YtofcjkbgieenlaaDoorRefsC
namespace Go.Proofs.YtofcjkbgieenlaaDoor.PM
open Go Go.Proofs
set_option maxRecDepth 100000
set_option linter.unusedVariables false

theorem bcase_bool {b : Bool} {H : VH} {K : Value → VH → Prop} (h : K (.bool b) H) : bcase b (K (.bool true) H) (K (.bool false) H) := by cases b <;> exact h
abbrev wordT : ByteArray := ⟨#[97,98,99,100,101,102,103,104,105,106,107,108,109,110,111,112,113,114,115,116,117,118,119,120,121,122,48,49,50,51,52,53,54,55,56,57]⟩
abbrev partT : ByteArray := ⟨#[97,98,99,100,101,102,103,104,105,106,107,108,109,110,111,112,113,114,115,116,117,118,119,120,121,122,48,49,50,51,52,53,54,55,56,57,46,95,45]⟩
abbrev ofS (s t : ByteArray) : Bool := ofFrom s t 0 s.size
/-- Is it no gap? -/
def badGap (g : ByteArray) : Bool :=
  !isS g [] && (!isS g [46] && (!isS g [95] && (!isS g [95, 95] && !ofS g ⟨#[45]⟩)))
def partFrom (s : ByteArray) : Nat → Nat → ByteArray → Bool
  | 0, _, _ => true
  | d + 1, i, g => bif !ofS (s.extract i (i + 1)) wordT then partFrom s d (i + 1) (g ++ s.extract i (i + 1)) else (bif badGap g then false else partFrom s d (i + 1) ⟨#[]⟩)
def partS (s : ByteArray) : Bool :=
  bif isS s [] || (!ofS s partT || (!ofS (s.extract 0 1) wordT || !ofS (s.extract (s.size - 1) s.size) wordT)) then false else partFrom s s.size 0 ⟨#[]⟩
def partLp : LSpec
  | [(0, .string s), (3, .string g), (4, .int .i64 i)], [], K => (i = 0 ∧ g = ⟨#[]⟩ ∧ s.size < 2 ^ 40) ∧ bcase (partFrom s s.size 0 ⟨#[]⟩) (K (.exit 0) [] []) (K .ret [(2, .bool false)] [])
  | _, _, _ => False
theorem part_rounds (s : ByteArray) (hs : s.size < 2 ^ 40) (K : Kont) : ∀ (d i : Nat) (g : ByteArray), i + d = s.size → g.size ≤ i →
    bcase (partFrom s d i g) (K (.exit 0) [] []) (K .ret [(2, .bool false)] []) →
    rnds Tryd.prog (callOf [(35, pureS ofG)]) (hints 51) noTab (d + 1) (lp Tryd.f51 5) [(0, .string s), (3, .string g), (4, .int .i64 i)] [] K
  | 0, i, g, hi, hg, hK => by
    refine to (R := bcase (decide ((↑i : Int) < (↑s.size : Int))) (need ((decide ((↑i : Int) ≤ (IntKind.i64.wrap ((↑i : Int) + (1 : Int))))) && (decide ((IntKind.i64.wrap ((↑i : Int) + (1 : Int))) ≤ (↑s.size : Int)))) ((((s.extract (↑i : Int).toNat (IntKind.i64.wrap ((↑i : Int) + (1 : Int))).toNat).size < (2 ^ 62)) ∧ ((ByteArray.mk #[97, 98, 99, 100, 101, 102, 103, 104, 105, 106, 107, 108, 109, 110, 111, 112, 113, 114, 115, 116, 117, 118, 119, 120, 121, 122, 48, 49, 50, 51, 52, 53, 54, 55, 56, 57]).size < (2 ^ 62))) ∧ (bcase (!(ofFrom (s.extract (↑i : Int).toNat (IntKind.i64.wrap ((↑i : Int) + (1 : Int))).toNat) (ByteArray.mk #[97, 98, 99, 100, 101, 102, 103, 104, 105, 106, 107, 108, 109, 110, 111, 112, 113, 114, 115, 116, 117, 118, 119, 120, 121, 122, 48, 49, 50, 51, 52, 53, 54, 55, 56, 57]) 0 (s.extract (↑i : Int).toNat (IntKind.i64.wrap ((↑i : Int) + (1 : Int))).toNat).size)) (need ((decide ((↑i : Int) ≤ (IntKind.i64.wrap ((↑i : Int) + (1 : Int))))) && (decide ((IntKind.i64.wrap ((↑i : Int) + (1 : Int))) ≤ (↑s.size : Int)))) (need (decide ((g.size + (s.extract (↑i : Int).toNat (IntKind.i64.wrap ((↑i : Int) + (1 : Int))).toNat).size) < 9223372036854775808)) (rnds Tryd.prog (callOf [(35, (pureS ofG))]) (hints 51) noTab (nat_lit 0) (lp Tryd.f51 5) [(0, (.string s)), (3, (.string (g ++ (s.extract (↑i : Int).toNat (IntKind.i64.wrap ((↑i : Int) + (1 : Int))).toNat)))), (4, (.int .i64 (IntKind.i64.wrap ((↑i : Int) + (1 : Int)))))] [] K))) (bcase (!(g.toList == (ByteArray.mk #[]).toList)) (bcase (!(g.toList == (ByteArray.mk #[46]).toList)) (bcase (!(g.toList == (ByteArray.mk #[95]).toList)) (bcase (!(g.toList == (ByteArray.mk #[95, 95]).toList)) (((g.size < (2 ^ 62)) ∧ ((ByteArray.mk #[45]).size < (2 ^ 62))) ∧ (bcase (!(ofFrom g (ByteArray.mk #[45]) 0 g.size)) (K .ret [(2, (.bool false))] []) (rnds Tryd.prog (callOf [(35, (pureS ofG))]) (hints 51) noTab (nat_lit 0) (lp Tryd.f51 5) [(0, (.string s)), (3, (.string (ByteArray.mk #[]))), (4, (.int .i64 (IntKind.i64.wrap ((↑i : Int) + (1 : Int)))))] [] K))) (rnds Tryd.prog (callOf [(35, (pureS ofG))]) (hints 51) noTab (nat_lit 0) (lp Tryd.f51 5) [(0, (.string s)), (3, (.string (ByteArray.mk #[]))), (4, (.int .i64 (IntKind.i64.wrap ((↑i : Int) + (1 : Int)))))] [] K)) (rnds Tryd.prog (callOf [(35, (pureS ofG))]) (hints 51) noTab (nat_lit 0) (lp Tryd.f51 5) [(0, (.string s)), (3, (.string (ByteArray.mk #[]))), (4, (.int .i64 (IntKind.i64.wrap ((↑i : Int) + (1 : Int)))))] [] K)) (rnds Tryd.prog (callOf [(35, (pureS ofG))]) (hints 51) noTab (nat_lit 0) (lp Tryd.f51 5) [(0, (.string s)), (3, (.string (ByteArray.mk #[]))), (4, (.int .i64 (IntKind.i64.wrap ((↑i : Int) + (1 : Int)))))] [] K)) (rnds Tryd.prog (callOf [(35, (pureS ofG))]) (hints 51) noTab (nat_lit 0) (lp Tryd.f51 5) [(0, (.string s)), (3, (.string (ByteArray.mk #[]))), (4, (.int .i64 (IntKind.i64.wrap ((↑i : Int) + (1 : Int)))))] [] K))))) (K (.exit 0) [] [])) (by kernel_rfl) ?_
    exact bcase_f (by simp; omega) hK
  | d + 1, i, g, hi, hg, hK => by
    have hw : IntKind.i64.wrap ((i : Int) + 1) = ((i + 1 : Nat) : Int) := wrap_id (by omega) (by omega)
    have ih := part_rounds s hs K d (i + 1)
    refine to (R := bcase (decide ((↑i : Int) < (↑s.size : Int))) (need ((decide ((↑i : Int) ≤ (IntKind.i64.wrap ((↑i : Int) + (1 : Int))))) && (decide ((IntKind.i64.wrap ((↑i : Int) + (1 : Int))) ≤ (↑s.size : Int)))) ((((s.extract (↑i : Int).toNat (IntKind.i64.wrap ((↑i : Int) + (1 : Int))).toNat).size < (2 ^ 62)) ∧ ((ByteArray.mk #[97, 98, 99, 100, 101, 102, 103, 104, 105, 106, 107, 108, 109, 110, 111, 112, 113, 114, 115, 116, 117, 118, 119, 120, 121, 122, 48, 49, 50, 51, 52, 53, 54, 55, 56, 57]).size < (2 ^ 62))) ∧ (bcase (!(ofFrom (s.extract (↑i : Int).toNat (IntKind.i64.wrap ((↑i : Int) + (1 : Int))).toNat) (ByteArray.mk #[97, 98, 99, 100, 101, 102, 103, 104, 105, 106, 107, 108, 109, 110, 111, 112, 113, 114, 115, 116, 117, 118, 119, 120, 121, 122, 48, 49, 50, 51, 52, 53, 54, 55, 56, 57]) 0 (s.extract (↑i : Int).toNat (IntKind.i64.wrap ((↑i : Int) + (1 : Int))).toNat).size)) (need ((decide ((↑i : Int) ≤ (IntKind.i64.wrap ((↑i : Int) + (1 : Int))))) && (decide ((IntKind.i64.wrap ((↑i : Int) + (1 : Int))) ≤ (↑s.size : Int)))) (need (decide ((g.size + (s.extract (↑i : Int).toNat (IntKind.i64.wrap ((↑i : Int) + (1 : Int))).toNat).size) < 9223372036854775808)) (rnds Tryd.prog (callOf [(35, (pureS ofG))]) (hints 51) noTab (d + 1) (lp Tryd.f51 5) [(0, (.string s)), (3, (.string (g ++ (s.extract (↑i : Int).toNat (IntKind.i64.wrap ((↑i : Int) + (1 : Int))).toNat)))), (4, (.int .i64 (IntKind.i64.wrap ((↑i : Int) + (1 : Int)))))] [] K))) (bcase (!(g.toList == (ByteArray.mk #[]).toList)) (bcase (!(g.toList == (ByteArray.mk #[46]).toList)) (bcase (!(g.toList == (ByteArray.mk #[95]).toList)) (bcase (!(g.toList == (ByteArray.mk #[95, 95]).toList)) (((g.size < (2 ^ 62)) ∧ ((ByteArray.mk #[45]).size < (2 ^ 62))) ∧ (bcase (!(ofFrom g (ByteArray.mk #[45]) 0 g.size)) (K .ret [(2, (.bool false))] []) (rnds Tryd.prog (callOf [(35, (pureS ofG))]) (hints 51) noTab (d + 1) (lp Tryd.f51 5) [(0, (.string s)), (3, (.string (ByteArray.mk #[]))), (4, (.int .i64 (IntKind.i64.wrap ((↑i : Int) + (1 : Int)))))] [] K))) (rnds Tryd.prog (callOf [(35, (pureS ofG))]) (hints 51) noTab (d + 1) (lp Tryd.f51 5) [(0, (.string s)), (3, (.string (ByteArray.mk #[]))), (4, (.int .i64 (IntKind.i64.wrap ((↑i : Int) + (1 : Int)))))] [] K)) (rnds Tryd.prog (callOf [(35, (pureS ofG))]) (hints 51) noTab (d + 1) (lp Tryd.f51 5) [(0, (.string s)), (3, (.string (ByteArray.mk #[]))), (4, (.int .i64 (IntKind.i64.wrap ((↑i : Int) + (1 : Int)))))] [] K)) (rnds Tryd.prog (callOf [(35, (pureS ofG))]) (hints 51) noTab (d + 1) (lp Tryd.f51 5) [(0, (.string s)), (3, (.string (ByteArray.mk #[]))), (4, (.int .i64 (IntKind.i64.wrap ((↑i : Int) + (1 : Int)))))] [] K)) (rnds Tryd.prog (callOf [(35, (pureS ofG))]) (hints 51) noTab (d + 1) (lp Tryd.f51 5) [(0, (.string s)), (3, (.string (ByteArray.mk #[]))), (4, (.int .i64 (IntKind.i64.wrap ((↑i : Int) + (1 : Int)))))] [] K))))) (K (.exit 0) [] [])) (by kernel_rfl) ?_
    rw [hw]
    simp only [Int.toNat_natCast]
    have hone : (s.extract i (i + 1)).size = 1 := by rw [ByteArray.size_extract]; omega
    refine bcase_t (by simp; omega) (need_of (by simp; omega) ⟨⟨by omega, by decide⟩, bcase_of (fun h => ?_) (fun h => ?_)⟩)
    · refine need_of (by simp; omega) (need_of (by simp; omega) (ih _ (by omega) (by rw [ByteArray.size_append]; omega) ?_))
      have e : partFrom s (d + 1) i g = partFrom s d (i + 1) (g ++ s.extract i (i + 1)) := by simp only [partFrom, h, cond_true]
      rw [← e]; exact hK
    · have e : partFrom s (d + 1) i g = bif badGap g then false else partFrom s d (i + 1) ⟨#[]⟩ := by simp only [partFrom, h, cond_false]
      rw [e] at hK
      have good : badGap g = false → rnds Tryd.prog (callOf [(35, pureS ofG)]) (hints 51) noTab (d + 1) (lp Tryd.f51 5) [(0, .string s), (3, .string ⟨#[]⟩), (4, .int .i64 ((i + 1 : Nat) : Int))] [] K := fun hb => by
        refine ih _ (by omega) (Nat.zero_le _) ?_
        simpa only [hb, cond_false] using hK
      have bad : badGap g = true → K .ret [(2, .bool false)] [] := fun hb => by
        simpa only [hb, cond_true, bcase] using hK
      (repeat' first | exact trivial | with_reducible refine need_of (by first | first | assumption | omega | decide | (simp only [Bool.and_true, Bool.and_eq_true, decide_eq_true_eq, ByteArray.size_extract, Int.toNat_natCast, List.getD_eq_getElem?_getD, beq_iff_eq, decide_eq_false_iff_not] at *; omega) | ((repeat' constructor) <;> first | rfl | first | assumption | omega | decide | (simp only [Bool.and_true, Bool.and_eq_true, decide_eq_true_eq, ByteArray.size_extract, Int.toNat_natCast, List.getD_eq_getElem?_getD, beq_iff_eq, decide_eq_false_iff_not] at *; omega))) ?_ | with_reducible refine And.intro (by first | first | assumption | omega | decide | (simp only [Bool.and_true, Bool.and_eq_true, decide_eq_true_eq, ByteArray.size_extract, Int.toNat_natCast, List.getD_eq_getElem?_getD, beq_iff_eq, decide_eq_false_iff_not] at *; omega) | ((repeat' constructor) <;> first | rfl | first | assumption | omega | decide | (simp only [Bool.and_true, Bool.and_eq_true, decide_eq_true_eq, ByteArray.size_extract, Int.toNat_natCast, List.getD_eq_getElem?_getD, beq_iff_eq, decide_eq_false_iff_not] at *; omega))) ?_ | with_reducible refine bcase_of (fun h => ?_) (fun h => ?_)) <;> first | exact good (by simp only [badGap, isS, *, Bool.and_true, Bool.and_false, Bool.true_and, Bool.false_and]) | exact bad (by simp only [badGap, isS, *, Bool.and_true, Bool.and_false, Bool.true_and, Bool.false_and])
theorem partLp_ok : CodeOk Tryd.prog Tryd.f51.ntmps (.loop (lp Tryd.f51 5)) partLp := by
  refine loop_ok (call := callOf [(35, pureS ofG)]) (hint := hints 51) (tb := noTab) hm (callOf_cons of_ok.spec callOf_nil) (by kernel_rfl) (by repeat' first | exact trivial | constructor |  (intro _ h; cases h)) fun fr H K h => ?_
  unfold partLp at h
  split at h
  · obtain ⟨⟨rfl, rfl, hs⟩, hK⟩ := h
    exact ⟨_, part_rounds _ hs _ _ 0 _ (Nat.zero_add _) (Nat.le_refl _) hK⟩
  · exact h.elim
def tab51 : Tab := ⟨fun | 5 => some partLp | _ => none, fun _ => none⟩
def partG : Pure
  | [.string s] => some (s.size < 2 ^ 40, .bool (partS s))
  | _ => none
theorem part_ok : PureOk Tryd.prog 51 partG := by
  refine .of_run (call := callOf [(35, pureS ofG)]) (hint := hints 51) (tb := tab51) hm (callOf_cons of_ok.spec callOf_nil) Tryd.func51 (by kernel_rfl) rfl (by kernel_rfl) (by repeat' first | exact trivial | constructor | (intro _ h; cases h; exact partLp_ok) | (intro _ h; cases h)) fun args c r h => ?_
  unfold partG at h
  split at h
  · rename_i s
    cases h
    refine ⟨rfl, fun hs => ⟨rfl, 1, fun K hK => ?_⟩⟩
    have hp : isS s [] = false → 0 < s.size := fun h => by
      rcases Nat.eq_zero_or_pos s.size with h0 | h0
      · have e : s = ⟨#[]⟩ := ByteArray.size_eq_zero_iff.1 h0
        subst e
        rw [show isS (ByteArray.mk #[]) [] = true from beq_self_eq_true _] at h
        cases h
      · exact h0
    refine to (R := bcase (s.toList == (ByteArray.mk #[]).toList) (K (.bool false) []) (((s.size < (2 ^ 62)) ∧ ((ByteArray.mk #[97, 98, 99, 100, 101, 102, 103, 104, 105, 106, 107, 108, 109, 110, 111, 112, 113, 114, 115, 116, 117, 118, 119, 120, 121, 122, 48, 49, 50, 51, 52, 53, 54, 55, 56, 57, 46, 95, 45]).size < (2 ^ 62))) ∧ (bcase (!(ofFrom s (ByteArray.mk #[97, 98, 99, 100, 101, 102, 103, 104, 105, 106, 107, 108, 109, 110, 111, 112, 113, 114, 115, 116, 117, 118, 119, 120, 121, 122, 48, 49, 50, 51, 52, 53, 54, 55, 56, 57, 46, 95, 45]) 0 s.size)) (K (.bool false) []) (need (decide ((1 : Int) ≤ (↑s.size : Int))) ((((s.extract 0 1).size < (2 ^ 62)) ∧ ((ByteArray.mk #[97, 98, 99, 100, 101, 102, 103, 104, 105, 106, 107, 108, 109, 110, 111, 112, 113, 114, 115, 116, 117, 118, 119, 120, 121, 122, 48, 49, 50, 51, 52, 53, 54, 55, 56, 57]).size < (2 ^ 62))) ∧ (bcase (!(ofFrom (s.extract 0 1) (ByteArray.mk #[97, 98, 99, 100, 101, 102, 103, 104, 105, 106, 107, 108, 109, 110, 111, 112, 113, 114, 115, 116, 117, 118, 119, 120, 121, 122, 48, 49, 50, 51, 52, 53, 54, 55, 56, 57]) 0 (s.extract 0 1).size)) (K (.bool false) []) (need ((decide ((0 : Int) ≤ (IntKind.i64.wrap ((↑s.size : Int) - (1 : Int))))) && ((decide ((IntKind.i64.wrap ((↑s.size : Int) - (1 : Int))) ≤ (↑s.size : Int))) && (decide ((↑s.size : Int) ≤ (↑s.size : Int))))) ((((s.extract (IntKind.i64.wrap ((↑s.size : Int) - (1 : Int))).toNat (↑s.size : Int).toNat).size < (2 ^ 62)) ∧ ((ByteArray.mk #[97, 98, 99, 100, 101, 102, 103, 104, 105, 106, 107, 108, 109, 110, 111, 112, 113, 114, 115, 116, 117, 118, 119, 120, 121, 122, 48, 49, 50, 51, 52, 53, 54, 55, 56, 57]).size < (2 ^ 62))) ∧ (bcase (!(ofFrom (s.extract (IntKind.i64.wrap ((↑s.size : Int) - (1 : Int))).toNat (↑s.size : Int).toNat) (ByteArray.mk #[97, 98, 99, 100, 101, 102, 103, 104, 105, 106, 107, 108, 109, 110, 111, 112, 113, 114, 115, 116, 117, 118, 119, 120, 121, 122, 48, 49, 50, 51, 52, 53, 54, 55, 56, 57]) 0 (s.extract (IntKind.i64.wrap ((↑s.size : Int) - (1 : Int))).toNat (↑s.size : Int).toNat).size)) (K (.bool false) []) ((((0 : Int) = (0 : Int)) ∧ (((ByteArray.mk #[]) = (ByteArray.mk #[])) ∧ (s.size < (2 ^ 40)))) ∧ (bcase (partFrom s s.size 0 (ByteArray.mk #[])) (K (.bool true) []) (K (.bool false) [])))))))))))) (by kernel_rfl) ?_
    refine bcase_of (fun h => ?_) (fun h => ?_)
    · simpa only [isS, partS, *, cond_true, cond_false, Bool.and_true, Bool.and_false, Bool.true_and, Bool.false_and, Bool.or_true, Bool.or_false, Bool.true_or, Bool.false_or] using hK _
    · have h1 := hp h
      have hw : IntKind.i64.wrap ((s.size : Int) - 1) = ((s.size - 1 : Nat) : Int) := by
        rw [show ((s.size : Int) - 1) = ((s.size - 1 : Nat) : Int) by omega]; exact wrap_id (by omega) (by omega)
      rw [hw]
      simp only [Int.toNat_natCast]
      ((repeat' first | exact trivial | with_reducible refine need_of (by first | first | assumption | omega | decide | (simp only [Bool.and_true, Bool.and_eq_true, decide_eq_true_eq, ByteArray.size_extract, Int.toNat_natCast, List.getD_eq_getElem?_getD, beq_iff_eq, decide_eq_false_iff_not] at *; omega) | ((repeat' constructor) <;> first | rfl | first | assumption | omega | decide | (simp only [Bool.and_true, Bool.and_eq_true, decide_eq_true_eq, ByteArray.size_extract, Int.toNat_natCast, List.getD_eq_getElem?_getD, beq_iff_eq, decide_eq_false_iff_not] at *; omega))) ?_ | with_reducible refine And.intro (by first | first | assumption | omega | decide | (simp only [Bool.and_true, Bool.and_eq_true, decide_eq_true_eq, ByteArray.size_extract, Int.toNat_natCast, List.getD_eq_getElem?_getD, beq_iff_eq, decide_eq_false_iff_not] at *; omega) | ((repeat' constructor) <;> first | rfl | first | assumption | omega | decide | (simp only [Bool.and_true, Bool.and_eq_true, decide_eq_true_eq, ByteArray.size_extract, Int.toNat_natCast, List.getD_eq_getElem?_getD, beq_iff_eq, decide_eq_false_iff_not] at *; omega))) ?_ | with_reducible refine bcase_of (fun h => ?_) (fun h => ?_)) <;> (have := hK []; simp only [isS, partS, *, cond_true, cond_false, Bool.and_true, Bool.and_false, Bool.true_and, Bool.false_and, Bool.or_true, Bool.or_false, Bool.true_or, Bool.false_or] at this ⊢; exact this))
  · cases h
def pathAll (l : List ByteArray) : Nat → Nat → Bool
  | 0, _ => true
  | d + 1, i => bif !partS (l.getD i (ByteArray.mk #[])) then false else pathAll l d (i + 1)
def pathLp : LSpec
  | [(3, .slice (some ⟨0, 0, none⟩) n m), (4, .int .i64 i)], H, K => ∃ l : List ByteArray, (i = 0 ∧ n = l.length ∧ m = l.length ∧ l.length < 2 ^ 60 ∧ (∀ i, (l.getD i (ByteArray.mk #[])).size < 2 ^ 40) ∧ H = [.row strC 1 l .own]) ∧ bcase (pathAll l l.length 0) (K (.exit 0) [] [.row strC 1 l .own]) (K .ret [(2, .bool false)] [.row strC 1 l .own])
  | _, _, _ => False
theorem path_rounds (l : List ByteArray) (hl : l.length < 2 ^ 60) (hs : ∀ i, (l.getD i (ByteArray.mk #[])).size < 2 ^ 40) (K : Kont) : ∀ (d i : Nat), i + d = l.length →
    bcase (pathAll l d i) (K (.exit 0) [] [.row strC 1 l .own]) (K .ret [(2, .bool false)] [.row strC 1 l .own]) →
    rnds Tryd.prog (callOf [(51, pureS partG)]) (hints 34) noTab (d + 1) (lp Tryd.f34 3) [(3, .slice (some ⟨0, 0, none⟩) l.length l.length), (4, .int .i64 i)] [.row strC 1 l .own] K
  | 0, i, hi, hK => by
    refine to (R := bcase (decide ((↑i : Int) < (↑l.length : Int))) (need (decide ((↑i : Int) < (↑l.length : Int))) (need ((decide ((0 + (↑i : Int).toNat) < l.length)) && true) (((ByteArray.size (l.getD (0 + (↑i : Int).toNat) (ByteArray.mk #[]))) < (2 ^ 40)) ∧ (bcase (!(partS (l.getD (0 + (↑i : Int).toNat) (ByteArray.mk #[])))) (K .ret [(2, (.bool false))] [(.row strC 1 l .own)]) (rnds Tryd.prog (callOf [(51, (pureS partG))]) (hints 34) noTab (nat_lit 0) (lp Tryd.f34 3) [(3, (.slice (some (Addr.mk 0 0 none)) l.length l.length)), (4, (.int .i64 (IntKind.i64.wrap ((↑i : Int) + (1 : Int)))))] [(.row strC 1 l .own)] K))))) (K (.exit 0) [] [(.row strC 1 l .own)])) (by kernel_rfl) ?_
    exact bcase_f (by simp; omega) hK
  | d + 1, i, hi, hK => by
    have hw : IntKind.i64.wrap ((i : Int) + 1) = ((i + 1 : Nat) : Int) := wrap_id (by omega) (by omega)
    have ih := path_rounds l hl hs K d (i + 1) (by omega)
    have h1 := hs i
    refine to (R := bcase (decide ((↑i : Int) < (↑l.length : Int))) (need (decide ((↑i : Int) < (↑l.length : Int))) (need ((decide ((0 + (↑i : Int).toNat) < l.length)) && true) (((ByteArray.size (l.getD (0 + (↑i : Int).toNat) (ByteArray.mk #[]))) < (2 ^ 40)) ∧ (bcase (!(partS (l.getD (0 + (↑i : Int).toNat) (ByteArray.mk #[])))) (K .ret [(2, (.bool false))] [(.row strC 1 l .own)]) (rnds Tryd.prog (callOf [(51, (pureS partG))]) (hints 34) noTab (d + 1) (lp Tryd.f34 3) [(3, (.slice (some (Addr.mk 0 0 none)) l.length l.length)), (4, (.int .i64 (IntKind.i64.wrap ((↑i : Int) + (1 : Int)))))] [(.row strC 1 l .own)] K))))) (K (.exit 0) [] [(.row strC 1 l .own)])) (by kernel_rfl) ?_
    rw [hw]
    simp only [Int.toNat_natCast, Nat.zero_add]
    refine bcase_t (by simp; omega) (need_of (by simp; omega) (need_of (by simp; omega) ⟨h1, bcase_of (fun h => ?_) (fun h => ?_)⟩))
    · simpa only [pathAll, h, cond_true, bcase] using hK
    · simp only [pathAll, h, cond_false] at hK
      exact ih hK
theorem pathLp_ok : CodeOk Tryd.prog Tryd.f34.ntmps (.loop (lp Tryd.f34 3)) pathLp := by
  refine loop_ok (call := callOf [(51, pureS partG)]) (hint := hints 34) (tb := noTab) hm (callOf_cons part_ok.spec callOf_nil) (by kernel_rfl) (by repeat' first | exact trivial | constructor |  (intro _ h; cases h)) fun fr H K h => ?_
  unfold pathLp at h
  split at h
  · obtain ⟨l, ⟨rfl, rfl, rfl, h1, h2, rfl⟩, hK⟩ := h
    exact ⟨_, path_rounds l h1 h2 _ _ 0 (Nat.zero_add _) hK⟩
  · exact h.elim
def tab34 : Tab := ⟨fun | 3 => some pathLp | _ => none, fun _ => none⟩
def pathS (s : ByteArray) : Bool := pathAll (cutAll s 47) (cutAll s 47).length 0
def pathG : Pure
  | [.string s] => some (s.size < 2 ^ 40, .bool (pathS s))
  | _ => none
theorem path_ok : PureOk Tryd.prog 34 pathG := by
  refine .of_run (call := callOf [(51, pureS partG), (23, memS cutG)]) (hint := hints 34) (tb := tab34) hm (callOf_cons part_ok.spec (callOf_cons cut_ok.spec callOf_nil)) Tryd.func34 (by kernel_rfl) rfl (by kernel_rfl) (by repeat' first | exact trivial | constructor | (intro _ h; cases h; exact pathLp_ok) | (intro _ h; cases h)) fun args c r h => ?_
  unfold pathG at h
  split at h
  · rename_i s
    cases h
    refine ⟨rfl, fun hs => ⟨rfl, 1, fun K hK => ?_⟩⟩
    have hc := cutAll_len s 47
    refine to (R := (s.size < (2 ^ 40)) ∧ (∃ l, ((((0 : Int) = (0 : Int)) ∧ (((cutAll s (47 : Int)).length = l.length) ∧ (((cutAll s (47 : Int)).length = l.length) ∧ ((l.length < (2 ^ 60)) ∧ ((∀ (i : Nat), ((l.getD i (ByteArray.mk #[])).size < (2 ^ 40))) ∧ ((canonH [(3, (.slice (some (Addr.mk 0 0 none)) (cutAll s (47 : Int)).length (cutAll s (47 : Int)).length)), (4, (.int .i64 (0 : Int)))] [(.row strC 1 (cutAll s (47 : Int)) .own)]) = [(.row strC 1 l .own)])))))) ∧ (bcase (pathAll l l.length 0) (K (.bool true) []) (K (.bool false) []))))) (by kernel_rfl) ?_
    refine ⟨hs, _, ⟨rfl, rfl, rfl, by omega, fun i => Nat.lt_of_le_of_lt (cutAll_size s 47 i) hs, rfl⟩, ?_⟩
    refine bcase_of (fun h => ?_) (fun h => ?_)
    · simpa only [pathS, h] using hK _
    · simpa only [pathS, h] using hK _
  · cases h
abbrev allT : ByteArray := ⟨#[97,98,99,100,101,102,103,104,105,106,107,108,109,110,111,112,113,114,115,116,117,118,119,120,121,122,48,49,50,51,52,53,54,55,56,57,65,66,67,68,69,70,71,72,73,74,75,76,77,78,79,80,81,82,83,84,85,86,87,88,89,90,45]⟩
abbrev tenT : ByteArray := ⟨#[48,49,50,51,52,53,54,55,56,57]⟩
def badLabel (x : ByteArray) : Bool := ((x.size : Int) == 0) || (!ofS x allT || ((bt x 0 == 45) || (bt x ((x.size - 1 : Nat) : Int) == 45)))
def labels (l : List ByteArray) : Nat → Nat → Bool
  | 0, _ => true
  | d + 1, i => bif badLabel (l.getD i (ByteArray.mk #[])) then false else labels l d (i + 1)
def domainLp : LSpec
  | [(4, .slice (some ⟨0, 0, none⟩) n m), (5, .int .i64 i)], H, K => ∃ l : List ByteArray, (i = 0 ∧ n = l.length ∧ m = l.length ∧ l.length < 2 ^ 60 ∧ (∀ i, (l.getD i (ByteArray.mk #[])).size < 2 ^ 40) ∧ H = [.row strC 1 l .own]) ∧ bcase (labels l l.length 0) (K (.exit 0) [] [.row strC 1 l .own]) (K .ret [(2, .bool false)] [.row strC 1 l .own])
  | _, _, _ => False
theorem domain_rounds (l : List ByteArray) (hl : l.length < 2 ^ 60) (hs : ∀ i, (l.getD i (ByteArray.mk #[])).size < 2 ^ 40) (K : Kont) : ∀ (d i : Nat), i + d = l.length →
    bcase (labels l d i) (K (.exit 0) [] [.row strC 1 l .own]) (K .ret [(2, .bool false)] [.row strC 1 l .own]) →
    rnds Tryd.prog (callOf [(35, pureS ofG)]) (hints 33) noTab (d + 1) (lp Tryd.f33 6) [(4, .slice (some ⟨0, 0, none⟩) l.length l.length), (5, .int .i64 i)] [.row strC 1 l .own] K
  | 0, i, hi, hK => by
    refine to (R := bcase (decide ((↑i : Int) < (↑l.length : Int))) (need (decide ((↑i : Int) < (↑l.length : Int))) (need ((decide ((0 + (↑i : Int).toNat) < l.length)) && true) (bcase ((↑(ByteArray.size (l.getD (0 + (↑i : Int).toNat) (ByteArray.mk #[]))) : Int) == (0 : Int)) (K .ret [(2, (.bool false))] [(.row strC 1 l .own)]) (need (decide ((↑i : Int) < (↑l.length : Int))) (need ((decide ((0 + (↑i : Int).toNat) < l.length)) && true) ((((ByteArray.size (l.getD (0 + (↑i : Int).toNat) (ByteArray.mk #[]))) < (2 ^ 62)) ∧ ((ByteArray.mk #[97, 98, 99, 100, 101, 102, 103, 104, 105, 106, 107, 108, 109, 110, 111, 112, 113, 114, 115, 116, 117, 118, 119, 120, 121, 122, 48, 49, 50, 51, 52, 53, 54, 55, 56, 57, 65, 66, 67, 68, 69, 70, 71, 72, 73, 74, 75, 76, 77, 78, 79, 80, 81, 82, 83, 84, 85, 86, 87, 88, 89, 90, 45]).size < (2 ^ 62))) ∧ (bcase (!(ofFrom (l.getD (0 + (↑i : Int).toNat) (ByteArray.mk #[])) (ByteArray.mk #[97, 98, 99, 100, 101, 102, 103, 104, 105, 106, 107, 108, 109, 110, 111, 112, 113, 114, 115, 116, 117, 118, 119, 120, 121, 122, 48, 49, 50, 51, 52, 53, 54, 55, 56, 57, 65, 66, 67, 68, 69, 70, 71, 72, 73, 74, 75, 76, 77, 78, 79, 80, 81, 82, 83, 84, 85, 86, 87, 88, 89, 90, 45]) 0 (ByteArray.size (l.getD (0 + (↑i : Int).toNat) (ByteArray.mk #[]))))) (K .ret [(2, (.bool false))] [(.row strC 1 l .own)]) (need (decide ((↑i : Int) < (↑l.length : Int))) (need ((decide ((0 + (↑i : Int).toNat) < l.length)) && true) (need (decide ((0 : Int) < (↑(ByteArray.size (l.getD (0 + (↑i : Int).toNat) (ByteArray.mk #[]))) : Int))) (bcase ((bt (l.getD (0 + (↑i : Int).toNat) (ByteArray.mk #[])) (0 : Int)) == (45 : Int)) (K .ret [(2, (.bool false))] [(.row strC 1 l .own)]) (need (decide ((↑i : Int) < (↑l.length : Int))) (need ((decide ((0 + (↑i : Int).toNat) < l.length)) && true) (need ((decide ((0 : Int) ≤ (IntKind.i64.wrap ((↑(ByteArray.size (l.getD (0 + (↑i : Int).toNat) (ByteArray.mk #[]))) : Int) - (1 : Int))))) && (decide ((IntKind.i64.wrap ((↑(ByteArray.size (l.getD (0 + (↑i : Int).toNat) (ByteArray.mk #[]))) : Int) - (1 : Int))) < (↑(ByteArray.size (l.getD (0 + (↑i : Int).toNat) (ByteArray.mk #[]))) : Int)))) (bcase ((bt (l.getD (0 + (↑i : Int).toNat) (ByteArray.mk #[])) (IntKind.i64.wrap ((↑(ByteArray.size (l.getD (0 + (↑i : Int).toNat) (ByteArray.mk #[]))) : Int) - (1 : Int)))) == (45 : Int)) (K .ret [(2, (.bool false))] [(.row strC 1 l .own)]) (rnds Tryd.prog (callOf [(35, (pureS ofG))]) (hints 33) noTab (nat_lit 0) (lp Tryd.f33 6) [(4, (.slice (some (Addr.mk 0 0 none)) l.length l.length)), (5, (.int .i64 (IntKind.i64.wrap ((↑i : Int) + (1 : Int)))))] [(.row strC 1 l .own)] K)))))))))))))))) (K (.exit 0) [] [(.row strC 1 l .own)])) (by kernel_rfl) ?_
    exact bcase_f (by simp; omega) hK
  | d + 1, i, hi, hK => by
    have hw : IntKind.i64.wrap ((i : Int) + 1) = ((i + 1 : Nat) : Int) := wrap_id (by omega) (by omega)
    have ih := domain_rounds l hl hs K d (i + 1) (by omega)
    have h1 := hs i
    refine to (R := bcase (decide ((↑i : Int) < (↑l.length : Int))) (need (decide ((↑i : Int) < (↑l.length : Int))) (need ((decide ((0 + (↑i : Int).toNat) < l.length)) && true) (bcase ((↑(ByteArray.size (l.getD (0 + (↑i : Int).toNat) (ByteArray.mk #[]))) : Int) == (0 : Int)) (K .ret [(2, (.bool false))] [(.row strC 1 l .own)]) (need (decide ((↑i : Int) < (↑l.length : Int))) (need ((decide ((0 + (↑i : Int).toNat) < l.length)) && true) ((((ByteArray.size (l.getD (0 + (↑i : Int).toNat) (ByteArray.mk #[]))) < (2 ^ 62)) ∧ ((ByteArray.mk #[97, 98, 99, 100, 101, 102, 103, 104, 105, 106, 107, 108, 109, 110, 111, 112, 113, 114, 115, 116, 117, 118, 119, 120, 121, 122, 48, 49, 50, 51, 52, 53, 54, 55, 56, 57, 65, 66, 67, 68, 69, 70, 71, 72, 73, 74, 75, 76, 77, 78, 79, 80, 81, 82, 83, 84, 85, 86, 87, 88, 89, 90, 45]).size < (2 ^ 62))) ∧ (bcase (!(ofFrom (l.getD (0 + (↑i : Int).toNat) (ByteArray.mk #[])) (ByteArray.mk #[97, 98, 99, 100, 101, 102, 103, 104, 105, 106, 107, 108, 109, 110, 111, 112, 113, 114, 115, 116, 117, 118, 119, 120, 121, 122, 48, 49, 50, 51, 52, 53, 54, 55, 56, 57, 65, 66, 67, 68, 69, 70, 71, 72, 73, 74, 75, 76, 77, 78, 79, 80, 81, 82, 83, 84, 85, 86, 87, 88, 89, 90, 45]) 0 (ByteArray.size (l.getD (0 + (↑i : Int).toNat) (ByteArray.mk #[]))))) (K .ret [(2, (.bool false))] [(.row strC 1 l .own)]) (need (decide ((↑i : Int) < (↑l.length : Int))) (need ((decide ((0 + (↑i : Int).toNat) < l.length)) && true) (need (decide ((0 : Int) < (↑(ByteArray.size (l.getD (0 + (↑i : Int).toNat) (ByteArray.mk #[]))) : Int))) (bcase ((bt (l.getD (0 + (↑i : Int).toNat) (ByteArray.mk #[])) (0 : Int)) == (45 : Int)) (K .ret [(2, (.bool false))] [(.row strC 1 l .own)]) (need (decide ((↑i : Int) < (↑l.length : Int))) (need ((decide ((0 + (↑i : Int).toNat) < l.length)) && true) (need ((decide ((0 : Int) ≤ (IntKind.i64.wrap ((↑(ByteArray.size (l.getD (0 + (↑i : Int).toNat) (ByteArray.mk #[]))) : Int) - (1 : Int))))) && (decide ((IntKind.i64.wrap ((↑(ByteArray.size (l.getD (0 + (↑i : Int).toNat) (ByteArray.mk #[]))) : Int) - (1 : Int))) < (↑(ByteArray.size (l.getD (0 + (↑i : Int).toNat) (ByteArray.mk #[]))) : Int)))) (bcase ((bt (l.getD (0 + (↑i : Int).toNat) (ByteArray.mk #[])) (IntKind.i64.wrap ((↑(ByteArray.size (l.getD (0 + (↑i : Int).toNat) (ByteArray.mk #[]))) : Int) - (1 : Int)))) == (45 : Int)) (K .ret [(2, (.bool false))] [(.row strC 1 l .own)]) (rnds Tryd.prog (callOf [(35, (pureS ofG))]) (hints 33) noTab (d + 1) (lp Tryd.f33 6) [(4, (.slice (some (Addr.mk 0 0 none)) l.length l.length)), (5, (.int .i64 (IntKind.i64.wrap ((↑i : Int) + (1 : Int)))))] [(.row strC 1 l .own)] K)))))))))))))))) (K (.exit 0) [] [(.row strC 1 l .own)])) (by kernel_rfl) ?_
    rw [hw]
    simp only [Int.toNat_natCast, Nat.zero_add]
    generalize hx : l.getD i (ByteArray.mk #[]) = x at h1 ⊢
    have e : labels l (d + 1) i = bif badLabel x then false else labels l d (i + 1) := by rw [← hx]; rfl
    rw [e] at hK
    have bad : badLabel x = true → K .ret [(2, .bool false)] [.row strC 1 l .own] := fun hb => by simpa only [hb, cond_true, bcase] using hK
    have good : badLabel x = false → rnds Tryd.prog (callOf [(35, pureS ofG)]) (hints 33) noTab (d + 1) (lp Tryd.f33 6) [(4, .slice (some ⟨0, 0, none⟩) l.length l.length), (5, .int .i64 ((i + 1 : Nat) : Int))] [.row strC 1 l .own] K := fun hb => by
      refine ih ?_
      simpa only [hb, cond_false] using hK
    refine bcase_t (by simp; omega) (need_of (by simp; omega) (need_of (by simp; omega) (bcase_of (fun h => bad (by simp only [badLabel, h, Bool.true_or])) (fun h => ?_))))
    have h0 : 0 < x.size := by
      rcases Nat.eq_zero_or_pos x.size with h0 | h0
      · rw [h0] at h; cases h
      · exact h0
    have hw2 : IntKind.i64.wrap ((x.size : Int) - 1) = ((x.size - 1 : Nat) : Int) := by
      rw [show ((x.size : Int) - 1) = ((x.size - 1 : Nat) : Int) by omega]; exact wrap_id (by omega) (by omega)
    rw [hw2]
    clear hK ih e
    (repeat' first | exact trivial | with_reducible refine need_of (by first | first | assumption | omega | decide | (simp only [Bool.and_true, Bool.and_eq_true, decide_eq_true_eq, ByteArray.size_extract, Int.toNat_natCast, List.getD_eq_getElem?_getD, beq_iff_eq, decide_eq_false_iff_not] at *; omega) | ((repeat' constructor) <;> first | rfl | first | assumption | omega | decide | (simp only [Bool.and_true, Bool.and_eq_true, decide_eq_true_eq, ByteArray.size_extract, Int.toNat_natCast, List.getD_eq_getElem?_getD, beq_iff_eq, decide_eq_false_iff_not] at *; omega))) ?_ | with_reducible refine And.intro (by first | first | assumption | omega | decide | (simp only [Bool.and_true, Bool.and_eq_true, decide_eq_true_eq, ByteArray.size_extract, Int.toNat_natCast, List.getD_eq_getElem?_getD, beq_iff_eq, decide_eq_false_iff_not] at *; omega) | ((repeat' constructor) <;> first | rfl | first | assumption | omega | decide | (simp only [Bool.and_true, Bool.and_eq_true, decide_eq_true_eq, ByteArray.size_extract, Int.toNat_natCast, List.getD_eq_getElem?_getD, beq_iff_eq, decide_eq_false_iff_not] at *; omega))) ?_ | with_reducible refine bcase_of (fun h => ?_) (fun h => ?_)) <;> first | exact good (by simp only [badLabel, *, Bool.or_true, Bool.or_false, Bool.true_or, Bool.false_or]) | exact bad (by simp only [badLabel, *, Bool.or_true, Bool.or_false, Bool.true_or, Bool.false_or])
theorem domainLp_ok : CodeOk Tryd.prog Tryd.f33.ntmps (.loop (lp Tryd.f33 6)) domainLp := by
  refine loop_ok (call := callOf [(35, pureS ofG)]) (hint := hints 33) (tb := noTab) hm (callOf_cons of_ok.spec callOf_nil) (by kernel_rfl) (by repeat' first | exact trivial | constructor |  (intro _ h; cases h)) fun fr H K h => ?_
  unfold domainLp at h
  split at h
  · obtain ⟨l, ⟨rfl, rfl, rfl, h1, h2, rfl⟩, hK⟩ := h
    exact ⟨_, domain_rounds l h1 h2 _ _ 0 (Nat.zero_add _) hK⟩
  · exact h.elim
def tab33 : Tab := ⟨fun | 6 => some domainLp | _ => none, fun _ => none⟩
def domainS (s : ByteArray) : Bool :=
  bif decide (((cutAll s 58).length : Int) > 2) || (((cutAll s 58).length : Int) == 2 && (isS ((cutAll s 58).getD 1 (ByteArray.mk #[])) [] || (decide ((((cutAll s 58).getD 1 (ByteArray.mk #[])).size : Int) > 5) || !ofS ((cutAll s 58).getD 1 (ByteArray.mk #[])) tenT))) then false
  else labels (cutAll ((cutAll s 58).getD 0 (ByteArray.mk #[])) 46) (cutAll ((cutAll s 58).getD 0 (ByteArray.mk #[])) 46).length 0
def domainG : Pure
  | [.string s] => some (s.size < 2 ^ 40, .bool (domainS s))
  | _ => none
theorem domain_ok : PureOk Tryd.prog 33 domainG := by
  refine .of_run (call := callOf [(35, pureS ofG), (23, memS cutG)]) (hint := hints 33) (tb := tab33) hm (callOf_cons of_ok.spec (callOf_cons cut_ok.spec callOf_nil)) Tryd.func33 (by kernel_rfl) rfl (by kernel_rfl) (by repeat' first | exact trivial | constructor | (intro _ h; cases h; exact domainLp_ok) | (intro _ h; cases h)) fun args c r h => ?_
  unfold domainG at h
  split at h
  · rename_i s
    cases h
    refine ⟨rfl, fun hs => ⟨rfl, 1, fun K hK => ?_⟩⟩
    have hc := cutAll_len s 58
    have h0 := cutAll_size s 58 0
    have h1 := cutAll_size s 58 1
    have hc2 := cutAll_len ((cutAll s 58).getD 0 (ByteArray.mk #[])) 46
    have h2 := cutAll_size ((cutAll s 58).getD 0 (ByteArray.mk #[])) 46
    have fine : ∀ H, (decide (((cutAll s 58).length : Int) > 2) || (((cutAll s 58).length : Int) == 2 && (isS ((cutAll s 58).getD 1 (ByteArray.mk #[])) [] || (decide ((((cutAll s 58).getD 1 (ByteArray.mk #[])).size : Int) > 5) || !ofS ((cutAll s 58).getD 1 (ByteArray.mk #[])) tenT)))) = false → (K (.bool (labels (cutAll ((cutAll s 58).getD 0 (ByteArray.mk #[])) 46) (cutAll ((cutAll s 58).getD 0 (ByteArray.mk #[])) 46).length 0)) H) := fun H hh => by
      have := hK H
      simpa only [domainS, hh, cond_false] using this
    have bad : ∀ H, (decide (((cutAll s 58).length : Int) > 2) || (((cutAll s 58).length : Int) == 2 && (isS ((cutAll s 58).getD 1 (ByteArray.mk #[])) [] || (decide ((((cutAll s 58).getD 1 (ByteArray.mk #[])).size : Int) > 5) || !ofS ((cutAll s 58).getD 1 (ByteArray.mk #[])) tenT)))) = true → (K (.bool false) H) := fun H hh => by
      have := hK H
      simpa only [domainS, hh, cond_true] using this
    clear hK
    have hk : ∀ i, ((cutAll ((cutAll s 58).getD 0 (ByteArray.mk #[])) 46).getD i (ByteArray.mk #[])).size < 2 ^ 40 := fun i => by have := h2 i; omega
    refine to (R := (s.size < (2 ^ 40)) ∧ (bcase (decide ((↑(cutAll s (58 : Int)).length : Int) > (2 : Int))) (K (.bool false) []) (bcase ((↑(cutAll s (58 : Int)).length : Int) == (2 : Int)) (need (decide ((1 : Int) < (↑(cutAll s (58 : Int)).length : Int))) (need ((decide (1 < (cutAll s (58 : Int)).length)) && true) (bcase ((ByteArray.toList ((cutAll s (58 : Int)).getD 1 (ByteArray.mk #[]))) == (ByteArray.mk #[]).toList) (K (.bool false) []) (need (decide ((1 : Int) < (↑(cutAll s (58 : Int)).length : Int))) (need ((decide (1 < (cutAll s (58 : Int)).length)) && true) (bcase (decide ((↑(ByteArray.size ((cutAll s (58 : Int)).getD 1 (ByteArray.mk #[]))) : Int) > (5 : Int))) (K (.bool false) []) (need (decide ((1 : Int) < (↑(cutAll s (58 : Int)).length : Int))) (need ((decide (1 < (cutAll s (58 : Int)).length)) && true) ((((ByteArray.size ((cutAll s (58 : Int)).getD 1 (ByteArray.mk #[]))) < (2 ^ 62)) ∧ ((ByteArray.mk #[48, 49, 50, 51, 52, 53, 54, 55, 56, 57]).size < (2 ^ 62))) ∧ (bcase (!(ofFrom ((cutAll s (58 : Int)).getD 1 (ByteArray.mk #[])) (ByteArray.mk #[48, 49, 50, 51, 52, 53, 54, 55, 56, 57]) 0 (ByteArray.size ((cutAll s (58 : Int)).getD 1 (ByteArray.mk #[]))))) (K (.bool false) []) (need (decide ((0 : Int) < (↑(cutAll s (58 : Int)).length : Int))) (need ((decide (0 < (cutAll s (58 : Int)).length)) && true) (((ByteArray.size ((cutAll s (58 : Int)).getD 0 (ByteArray.mk #[]))) < (2 ^ 40)) ∧ (∃ l, ((((0 : Int) = (0 : Int)) ∧ (((cutAll ((cutAll s (58 : Int)).getD 0 (ByteArray.mk #[])) (46 : Int)).length = l.length) ∧ (((cutAll ((cutAll s (58 : Int)).getD 0 (ByteArray.mk #[])) (46 : Int)).length = l.length) ∧ ((l.length < (2 ^ 60)) ∧ ((∀ (i : Nat), ((l.getD i (ByteArray.mk #[])).size < (2 ^ 40))) ∧ ((canonH [(4, (.slice (some (Addr.mk 1 0 none)) (cutAll ((cutAll s (58 : Int)).getD 0 (ByteArray.mk #[])) (46 : Int)).length (cutAll ((cutAll s (58 : Int)).getD 0 (ByteArray.mk #[])) (46 : Int)).length)), (5, (.int .i64 (0 : Int)))] [(.row strC 1 (cutAll s (58 : Int)) .own), (.row strC 1 (cutAll ((cutAll s (58 : Int)).getD 0 (ByteArray.mk #[])) (46 : Int)) .own)]) = [(.row strC 1 l .own)])))))) ∧ (bcase (labels l l.length 0) (K (.bool true) []) (K (.bool false) []))))))))))))))))) (need (decide ((0 : Int) < (↑(cutAll s (58 : Int)).length : Int))) (need ((decide (0 < (cutAll s (58 : Int)).length)) && true) (((ByteArray.size ((cutAll s (58 : Int)).getD 0 (ByteArray.mk #[]))) < (2 ^ 40)) ∧ (∃ l, ((((0 : Int) = (0 : Int)) ∧ (((cutAll ((cutAll s (58 : Int)).getD 0 (ByteArray.mk #[])) (46 : Int)).length = l.length) ∧ (((cutAll ((cutAll s (58 : Int)).getD 0 (ByteArray.mk #[])) (46 : Int)).length = l.length) ∧ ((l.length < (2 ^ 60)) ∧ ((∀ (i : Nat), ((l.getD i (ByteArray.mk #[])).size < (2 ^ 40))) ∧ ((canonH [(4, (.slice (some (Addr.mk 1 0 none)) (cutAll ((cutAll s (58 : Int)).getD 0 (ByteArray.mk #[])) (46 : Int)).length (cutAll ((cutAll s (58 : Int)).getD 0 (ByteArray.mk #[])) (46 : Int)).length)), (5, (.int .i64 (0 : Int)))] [(.row strC 1 (cutAll s (58 : Int)) .own), (.row strC 1 (cutAll ((cutAll s (58 : Int)).getD 0 (ByteArray.mk #[])) (46 : Int)) .own)]) = [(.row strC 1 l .own)])))))) ∧ (bcase (labels l l.length 0) (K (.bool true) []) (K (.bool false) [])))))))))) (by kernel_rfl) ?_
    (repeat' first | exact trivial | with_reducible refine need_of (by first | first | assumption | omega | decide | (simp only [Bool.and_true, Bool.and_eq_true, decide_eq_true_eq, ByteArray.size_extract, Int.toNat_natCast, List.getD_eq_getElem?_getD, beq_iff_eq, decide_eq_false_iff_not] at *; omega) | ((repeat' constructor) <;> first | rfl | first | assumption | omega | decide | (simp only [Bool.and_true, Bool.and_eq_true, decide_eq_true_eq, ByteArray.size_extract, Int.toNat_natCast, List.getD_eq_getElem?_getD, beq_iff_eq, decide_eq_false_iff_not] at *; omega))) ?_ | with_reducible refine And.intro (by first | first | assumption | omega | decide | (simp only [Bool.and_true, Bool.and_eq_true, decide_eq_true_eq, ByteArray.size_extract, Int.toNat_natCast, List.getD_eq_getElem?_getD, beq_iff_eq, decide_eq_false_iff_not] at *; omega) | ((repeat' constructor) <;> first | rfl | first | assumption | omega | decide | (simp only [Bool.and_true, Bool.and_eq_true, decide_eq_true_eq, ByteArray.size_extract, Int.toNat_natCast, List.getD_eq_getElem?_getD, beq_iff_eq, decide_eq_false_iff_not] at *; omega))) ?_ | with_reducible refine bcase_of (fun h => ?_) (fun h => ?_)) <;> first | exact bad [] (by simp only [isS, tenT, *, cond_true, cond_false, Bool.and_true, Bool.and_false, Bool.true_and, Bool.false_and, Bool.or_true, Bool.or_false, Bool.true_or, Bool.false_or]) | exact ⟨_, ⟨rfl, rfl, rfl, by omega, hk, rfl⟩, bcase_bool (fine [] (by simp only [isS, tenT, *, cond_true, cond_false, Bool.and_true, Bool.and_false, Bool.true_and, Bool.false_and, Bool.or_true, Bool.or_false, Bool.true_or, Bool.false_or]))⟩
  · cases h
end Go.Proofs.YtofcjkbgieenlaaDoor.PM

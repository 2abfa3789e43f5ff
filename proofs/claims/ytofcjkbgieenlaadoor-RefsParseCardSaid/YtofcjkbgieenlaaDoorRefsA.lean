/- Contracts of small functions of refs. By an AI agent. -/
import Derived.Test.YtofcjkbgieenlaaDoorHints12
import Derived.Test.YtofcjkbgieenlaaDoorPMLift
namespace Go.Proofs.YtofcjkbgieenlaaDoor.PM
open Go Go.Proofs
set_option maxRecDepth 100000
set_option linter.unusedVariables false
theorem hm : (Tryd.prog).follows .mixedOrders = true := by kernel_rfl

def smallB (c : Int) : Bool := decide (c ≥ 97) && decide (c ≤ 122)
def smallG : Pure | [.int .u8 c] => some (True, .bool (smallB c)) | _ => none
theorem small_ok : PureOk Tryd.prog 60 smallG := by
  refine .of_run (call := callOf []) (hint := hints 60) (tb := noTab) hm callOf_nil Tryd.func60 (by kernel_rfl) rfl (by kernel_rfl) (by repeat' first | exact trivial | constructor | (intro _ h; cases h)) fun args c r h => ?_
  unfold smallG at h
  split at h
  · rename_i c
    cases h
    refine ⟨rfl, fun _ => ⟨rfl, 1, fun K hK => ?_⟩⟩
    refine to (R := bcase (decide (c ≥ (97 : Int))) (K (.bool (decide (c ≤ (122 : Int)))) []) (K (.bool false) [])) (by kernel_rfl) ?_
    refine bcase_of (fun h => ?_) (fun h => ?_)
    · simpa [smallB, h] using hK []
    · simpa [smallB, h] using hK []
  · cases h

def digitB (c : Int) : Bool := decide (c ≥ 48) && decide (c ≤ 57)
def digitG : Pure | [.int .u8 c] => some (True, .bool (digitB c)) | _ => none
theorem digit_ok : PureOk Tryd.prog 45 digitG := by
  refine .of_run (call := callOf []) (hint := hints 45) (tb := noTab) hm callOf_nil Tryd.func45 (by kernel_rfl) rfl (by kernel_rfl) (by repeat' first | exact trivial | constructor | (intro _ h; cases h)) fun args c r h => ?_
  unfold digitG at h
  split at h
  · rename_i c
    cases h
    refine ⟨rfl, fun _ => ⟨rfl, 1, fun K hK => ?_⟩⟩
    refine to (R := bcase (decide (c ≥ (48 : Int))) (K (.bool (decide (c ≤ (57 : Int)))) []) (K (.bool false) [])) (by kernel_rfl) ?_
    refine bcase_of (fun h => ?_) (fun h => ?_)
    · simpa [digitB, h] using hK []
    · simpa [digitB, h] using hK []
  · cases h

def letterB (c : Int) : Bool := smallB c || (decide (c ≥ 65) && decide (c ≤ 90))
def letterG : Pure | [.int .u8 c] => some (True, .bool (letterB c)) | _ => none
theorem letter_ok : PureOk Tryd.prog 44 letterG := by
  refine .of_run (call := callOf [(60, pureS smallG)]) (hint := hints 44) (tb := noTab) hm (callOf_cons small_ok.spec callOf_nil) Tryd.func44 (by kernel_rfl) rfl (by kernel_rfl) (by repeat' first | exact trivial | constructor | (intro _ h; cases h)) fun args c r h => ?_
  unfold letterG at h
  split at h
  · rename_i c
    cases h
    refine ⟨rfl, fun _ => ⟨rfl, 1, fun K hK => ?_⟩⟩
    refine to (R := True ∧ (bcase (smallB c) (K (.bool true) []) (bcase (decide (c ≥ (65 : Int))) (K (.bool (decide (c ≤ (90 : Int)))) []) (K (.bool false) [])))) (by kernel_rfl) ?_
    refine ⟨trivial, bcase_of (fun h => ?_) (fun h => bcase_of (fun h2 => ?_) (fun h2 => ?_))⟩
    · simpa [letterB, h] using hK []
    · simpa [letterB, h, h2] using hK []
    · simpa [letterB, h, h2] using hK []
  · cases h

/-- Is a byte, at a place, one of a label? -/
def labelAt (s : ByteArray) (i : Int) : Bool := letterB (bt s i) || digitB (bt s i) || (!(bt s i != 45) && !(i == 0) && !(i == (s.size : Int) - 1))
def labelFrom (s : ByteArray) (i n : Nat) : Bool := (List.range' i n).all fun j => labelAt s j
def labelLp : LSpec
  | [(0, .string s), (5, .int .i64 n), (6, .int .i64 i)], [], K => (n = s.size ∧ 0 ≤ i ∧ i ≤ n ∧ s.size < 2 ^ 62) ∧ bcase (labelFrom s i.toNat (s.size - i.toNat)) (K (.exit 0) [(0, .string s)] []) (K .ret [(2, .bool false)] [])
  | _, _, _ => False
theorem wrap_id {x : Int} (h0 : -(2 ^ 63) ≤ x) (h1 : x < 2 ^ 63) : IntKind.i64.wrap x = x := by
  unfold IntKind.wrap
  simp only [IntKind.bits, IntKind.signed]
  simp
  omega
theorem labelLp_ok : CodeOk Tryd.prog 41 (.loop (lp Tryd.f49 2)) labelLp := by
  refine loop_ok (call := callOf [(44, pureS letterG), (45, pureS digitG)]) (hint := hints 49) (tb := noTab) hm (callOf_cons letter_ok.spec (callOf_cons digit_ok.spec callOf_nil)) (by kernel_rfl) (by repeat' first | exact trivial | constructor | (intro _ h; cases h)) fun fr H K h => ?_
  unfold labelLp at h
  split at h
  · rename_i s n i
    obtain ⟨⟨hn, h0, h1, hs⟩, hb⟩ := h
    obtain ⟨d, hd⟩ : ∃ d, d = s.size - i.toNat := ⟨_, rfl⟩
    refine ⟨d + 1, ?_⟩
    rw [← hd] at hb
    induction d generalizing i with
    | zero =>
      refine to (R := bcase (decide (i < n)) (need ((decide ((0 : Int) ≤ i)) && (decide (i < (↑s.size : Int)))) (True ∧ (bcase (!(letterB (bt s i))) (need ((decide ((0 : Int) ≤ i)) && (decide (i < (↑s.size : Int)))) (True ∧ (bcase (!(digitB (bt s i))) (need ((decide ((0 : Int) ≤ i)) && (decide (i < (↑s.size : Int)))) (bcase ((bt s i) != (45 : Int)) (K .ret [(2, (.bool false))] []) (bcase (i == (0 : Int)) (K .ret [(2, (.bool false))] []) (bcase (i == (IntKind.i64.wrap ((↑s.size : Int) - (1 : Int)))) (K .ret [(2, (.bool false))] []) (rnds Tryd.prog (callOf [(44, (pureS letterG)), (45, (pureS digitG))]) (hints 49) noTab (nat_lit 0) (lp Tryd.f49 2) [(0, (.string s)), (5, (.int .i64 n)), (6, (.int .i64 (IntKind.i64.wrap (i + (1 : Int)))))] [] K))))) (rnds Tryd.prog (callOf [(44, (pureS letterG)), (45, (pureS digitG))]) (hints 49) noTab (nat_lit 0) (lp Tryd.f49 2) [(0, (.string s)), (5, (.int .i64 n)), (6, (.int .i64 (IntKind.i64.wrap (i + (1 : Int)))))] [] K)))) (rnds Tryd.prog (callOf [(44, (pureS letterG)), (45, (pureS digitG))]) (hints 49) noTab (nat_lit 0) (lp Tryd.f49 2) [(0, (.string s)), (5, (.int .i64 n)), (6, (.int .i64 (IntKind.i64.wrap (i + (1 : Int)))))] [] K)))) (K (.exit 0) [(0, (.string s))] [])) (by kernel_rfl) ?_
      have hlt : ¬ i < n := by omega
      refine bcase_f (by simpa using hlt) ?_
      simpa [labelFrom, bcase] using hb
    | succ d ih =>
      have hlt : i < n := by omega
      have hin : (decide ((0 : Int) ≤ i) && decide (i < (s.size : Int))) = true := by simp; omega
      have hi2 : ((i.toNat : Nat) : Int) = i := by omega
      have hw : IntKind.i64.wrap (i + 1) = i + 1 := wrap_id (by omega) (by omega)
      have hw2 : IntKind.i64.wrap ((s.size : Int) - 1) = (s.size : Int) - 1 := wrap_id (by omega) (by omega)
      have hto : (i + 1).toNat = i.toNat + 1 := by omega
      have next : labelAt s i = true → rnds Tryd.prog (callOf [(44, pureS letterG), (45, pureS digitG)]) (hints 49) noTab (d + 1) (lp Tryd.f49 2) [(0, .string s), (5, .int .i64 n), (6, .int .i64 (i + 1))] [] K := fun ha =>
        ih (i + 1) (by omega) (by omega) (by
          rw [hto]
          simp only [labelFrom, List.range'_succ, List.all_cons, hi2, ha, Bool.true_and] at hb
          exact hb) (by omega)
      have stop : labelAt s i = false → K .ret [(2, .bool false)] [] := fun ha => by
        simp only [labelFrom, List.range'_succ, List.all_cons, hi2, ha, Bool.false_and] at hb
        exact hb
      refine to (R := bcase (decide (i < n)) (need ((decide ((0 : Int) ≤ i)) && (decide (i < (↑s.size : Int)))) (True ∧ (bcase (!(letterB (bt s i))) (need ((decide ((0 : Int) ≤ i)) && (decide (i < (↑s.size : Int)))) (True ∧ (bcase (!(digitB (bt s i))) (need ((decide ((0 : Int) ≤ i)) && (decide (i < (↑s.size : Int)))) (bcase ((bt s i) != (45 : Int)) (K .ret [(2, (.bool false))] []) (bcase (i == (0 : Int)) (K .ret [(2, (.bool false))] []) (bcase (i == (IntKind.i64.wrap ((↑s.size : Int) - (1 : Int)))) (K .ret [(2, (.bool false))] []) (rnds Tryd.prog (callOf [(44, (pureS letterG)), (45, (pureS digitG))]) (hints 49) noTab (d + 1) (lp Tryd.f49 2) [(0, (.string s)), (5, (.int .i64 n)), (6, (.int .i64 (IntKind.i64.wrap (i + (1 : Int)))))] [] K))))) (rnds Tryd.prog (callOf [(44, (pureS letterG)), (45, (pureS digitG))]) (hints 49) noTab (d + 1) (lp Tryd.f49 2) [(0, (.string s)), (5, (.int .i64 n)), (6, (.int .i64 (IntKind.i64.wrap (i + (1 : Int)))))] [] K)))) (rnds Tryd.prog (callOf [(44, (pureS letterG)), (45, (pureS digitG))]) (hints 49) noTab (d + 1) (lp Tryd.f49 2) [(0, (.string s)), (5, (.int .i64 n)), (6, (.int .i64 (IntKind.i64.wrap (i + (1 : Int)))))] [] K)))) (K (.exit 0) [(0, (.string s))] [])) (by kernel_rfl) ?_
      rw [hw2]
      refine bcase_t (by simpa using hlt) (need_of hin ⟨trivial, bcase_of (fun a => need_of hin ⟨trivial, bcase_of (fun b => need_of hin (bcase_of (fun c => ?_) (fun c => bcase_of (fun e => ?_) (fun e => bcase_of (fun f => ?_) (fun f => ?_))))) (fun b => ?_)⟩) (fun a => ?_)⟩)
      · exact stop (by simp only [Bool.not_eq_true'] at a b; simp [labelAt, a, b, c])
      · exact stop (by simp only [Bool.not_eq_true'] at a b; simp only [labelAt, a, b, e]; simp)
      · exact stop (by simp only [Bool.not_eq_true'] at a b; simp only [labelAt, a, b, f]; simp)
      · rw [hw]; exact next (by simp only [labelAt, c, e, f]; simp)
      · rw [hw]; exact next (by simp only [Bool.not_eq_false'] at b; simp only [labelAt, b]; simp)
      · rw [hw]; exact next (by simp only [Bool.not_eq_false'] at a; simp only [labelAt, a]; simp)
  · exact h.elim
theorem toList_empty (s : ByteArray) : (s.toList == (ByteArray.mk #[]).toList) = (s.size == 0) := by
  rw [ByteArray.toList_eq, ByteArray.toList_eq, Bool.eq_iff_iff]
  simp only [beq_iff_eq]
  constructor
  · intro h
    have := congrArg List.length h
    simpa using this
  · intro h
    exact List.eq_nil_of_length_eq_zero (by simpa using h)
def labelB (s : ByteArray) : Bool := labelFrom s 0 s.size && !(s.size == 0)
def labelG : Pure | [.string s] => some (s.size < 2 ^ 62, .bool (labelB s)) | _ => none
def tab49 : Tab := ⟨fun | 2 => some labelLp | _ => none, fun _ => none⟩
theorem label_ok : PureOk Tryd.prog 49 labelG := by
  refine .of_run (call := callOf [(44, pureS letterG), (45, pureS digitG)]) (hint := hints 49) (tb := tab49) hm (callOf_cons letter_ok.spec (callOf_cons digit_ok.spec callOf_nil)) Tryd.func49 (by kernel_rfl) rfl (by kernel_rfl)
    (by repeat' first | exact trivial | constructor | (intro _ h; cases h; exact labelLp_ok) | (intro _ h; cases h)) fun args c r h => ?_
  unfold labelG at h
  split at h
  · rename_i s
    cases h
    refine ⟨rfl, fun hs => ⟨rfl, 1, fun K hK => ?_⟩⟩
    refine to (R := (((↑s.size : Int) = (↑s.size : Int)) ∧ (((0 : Int) ≤ (0 : Int)) ∧ (((0 : Int) ≤ (↑s.size : Int)) ∧ (s.size < (2 ^ 62))))) ∧ (bcase (labelFrom s (Int.toNat (0 : Int)) (s.size - (Int.toNat (0 : Int)))) (K (.bool !(s.toList == (ByteArray.mk #[]).toList)) []) (K (.bool false) []))) (by kernel_rfl) ?_
    have he : (!(s.toList == (ByteArray.mk #[]).toList)) = !(s.size == 0) := by rw [toList_empty]
    refine ⟨⟨rfl, by omega, by omega, hs⟩, bcase_of (fun h => ?_) (fun h => ?_)⟩
    · rw [he]; simpa [labelB, show labelFrom s 0 s.size = true from h] using hK []
    · simpa [labelB, show labelFrom s 0 s.size = false from h] using hK []
  · cases h
end Go.Proofs.YtofcjkbgieenlaaDoor.PM

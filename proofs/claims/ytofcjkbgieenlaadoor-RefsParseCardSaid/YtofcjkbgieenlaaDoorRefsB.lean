/- Contracts of small functions of the reference: cut, of. By an AI agent. -/
import Derived.Test.YtofcjkbgieenlaaDoorRefsA
namespace Go.Proofs.YtofcjkbgieenlaaDoor.PM
open Go Go.Proofs
set_option maxRecDepth 100000
set_option linter.unusedVariables false

/-- One byte more. -/
def cutStep (s : ByteArray) (c : Int) (xs : List ByteArray) (i : Nat) : List ByteArray :=
  if bt s i == c then xs ++ [ByteArray.mk #[]] else xs.set (xs.length - 1) (xs.getD (xs.length - 1) (ByteArray.mk #[]) ++ s.extract i (i + 1))
def cutFrom (s : ByteArray) (c : Int) : Nat → List ByteArray → Nat → List ByteArray
  | 0, xs, _ => xs
  | d + 1, xs, i => cutFrom s c d (cutStep s c xs i) (i + 1)
def cutAll (s : ByteArray) (c : Int) : List ByteArray := cutFrom s c s.size [ByteArray.mk #[]] 0

def cutLp : LSpec
  | [(0, .string s), (1, .int .u8 c), (5, .slice (some ⟨0, 0, none⟩) n m), (6, .int .i64 i)], H, K => (s.size < 2 ^ 40 ∧ i = 0 ∧ n = 1 ∧ m = 1 ∧ H = [.row strC 1 [ByteArray.mk #[]] .own]) ∧
      K (.exit 0) [(5, .slice (some ⟨0, 0, none⟩) (cutAll s c).length (cutAll s c).length)] [.row strC 1 (cutAll s c) .own]
  | _, _, _ => False

theorem cut_rounds (s : ByteArray) (c : Int) (hs : s.size < 2 ^ 40) (K : Kont) : ∀ (d i : Nat) (xs : List ByteArray), i + d = s.size → 0 < xs.length → xs.length ≤ i + 1 → (∀ x ∈ xs, x.size ≤ i) →
    K (.exit 0) [(5, .slice (some ⟨0, 0, none⟩) (cutFrom s c d xs i).length (cutFrom s c d xs i).length)] [.row strC 1 (cutFrom s c d xs i) .own] →
    rnds Tryd.prog (callOf []) (hints 23) noTab (d + 1) (lp Tryd.f23 3) [(0, .string s), (1, .int .u8 c), (5, .slice (some ⟨0, 0, none⟩) xs.length xs.length), (6, .int .i64 i)] [.row strC 1 xs .own] K
  | 0, i, xs, hi, h0, hl, hx, hK => by
    refine to (R := bcase (decide ((↑i : Int) < (↑s.size : Int))) (need (decide ((↑i : Int) < (↑s.size : Int))) (bcase ((bt s (↑i : Int)) == c) (need (((0 + xs.length).beq xs.length) && ((((xs.length + 1) * 16).ble 140737488355328) && true)) (rnds Tryd.prog (callOf []) (hints 23) noTab (nat_lit 0) (lp Tryd.f23 3) [(0, (.string s)), (1, (.int .u8 c)), (5, (.slice (some (Addr.mk 0 0 none)) (xs.length + 1) (xs.length + 1))), (6, (.int .i64 (IntKind.i64.wrap ((↑i : Int) + (1 : Int)))))] [(.row strC 1 (xs ++ [(ByteArray.mk #[])]) .own)] K)) (need ((decide ((0 : Int) ≤ (IntKind.i64.wrap ((↑xs.length : Int) - (1 : Int))))) && (decide ((IntKind.i64.wrap ((↑xs.length : Int) - (1 : Int))) < (↑xs.length : Int)))) (need ((decide ((0 + (IntKind.i64.wrap ((↑xs.length : Int) - (1 : Int))).toNat) < xs.length)) && true) (need ((decide ((↑i : Int) ≤ (IntKind.i64.wrap ((↑i : Int) + (1 : Int))))) && (decide ((IntKind.i64.wrap ((↑i : Int) + (1 : Int))) ≤ (↑s.size : Int)))) (need (decide (((ByteArray.size (xs.getD (0 + (IntKind.i64.wrap ((↑xs.length : Int) - (1 : Int))).toNat) (ByteArray.mk #[]))) + (s.extract (↑i : Int).toNat (IntKind.i64.wrap ((↑i : Int) + (1 : Int))).toNat).size) < 9223372036854775808)) (need ((decide ((0 : Int) ≤ (IntKind.i64.wrap ((↑xs.length : Int) - (1 : Int))))) && (decide ((IntKind.i64.wrap ((↑xs.length : Int) - (1 : Int))) < (↑xs.length : Int)))) (need ((decide ((0 + (IntKind.i64.wrap ((↑xs.length : Int) - (1 : Int))).toNat) < xs.length)) && true) (rnds Tryd.prog (callOf []) (hints 23) noTab (nat_lit 0) (lp Tryd.f23 3) [(0, (.string s)), (1, (.int .u8 c)), (5, (.slice (some (Addr.mk 0 0 none)) xs.length xs.length)), (6, (.int .i64 (IntKind.i64.wrap ((↑i : Int) + (1 : Int)))))] [(.row strC 1 (xs.set (0 + (IntKind.i64.wrap ((↑xs.length : Int) - (1 : Int))).toNat) ((xs.getD (0 + (IntKind.i64.wrap ((↑xs.length : Int) - (1 : Int))).toNat) (ByteArray.mk #[])) ++ (s.extract (↑i : Int).toNat (IntKind.i64.wrap ((↑i : Int) + (1 : Int))).toNat))) .own)] K))))))))) (K (.exit 0) [(5, (.slice (some (Addr.mk 0 0 none)) xs.length xs.length))] [(.row strC 1 xs .own)])) (by kernel_rfl) ?_
    exact bcase_f (by simp; omega) hK
  | d + 1, i, xs, hi, h0, hl, hx, hK => by
    have hw : IntKind.i64.wrap ((i : Int) + 1) = ((i + 1 : Nat) : Int) := wrap_id (by omega) (by omega)
    have hw2 : IntKind.i64.wrap ((xs.length : Int) - 1) = ((xs.length - 1 : Nat) : Int) := by
      rw [show ((xs.length : Int) - 1) = ((xs.length - 1 : Nat) : Int) by omega]; exact wrap_id (by omega) (by omega)
    have ih := cut_rounds s c hs K d (i + 1) (cutStep s c xs i) (by omega)
    refine to (R := bcase (decide ((↑i : Int) < (↑s.size : Int))) (need (decide ((↑i : Int) < (↑s.size : Int))) (bcase ((bt s (↑i : Int)) == c) (need (((0 + xs.length).beq xs.length) && ((((xs.length + 1) * 16).ble 140737488355328) && true)) (rnds Tryd.prog (callOf []) (hints 23) noTab (d + 1) (lp Tryd.f23 3) [(0, (.string s)), (1, (.int .u8 c)), (5, (.slice (some (Addr.mk 0 0 none)) (xs.length + 1) (xs.length + 1))), (6, (.int .i64 (IntKind.i64.wrap ((↑i : Int) + (1 : Int)))))] [(.row strC 1 (xs ++ [(ByteArray.mk #[])]) .own)] K)) (need ((decide ((0 : Int) ≤ (IntKind.i64.wrap ((↑xs.length : Int) - (1 : Int))))) && (decide ((IntKind.i64.wrap ((↑xs.length : Int) - (1 : Int))) < (↑xs.length : Int)))) (need ((decide ((0 + (IntKind.i64.wrap ((↑xs.length : Int) - (1 : Int))).toNat) < xs.length)) && true) (need ((decide ((↑i : Int) ≤ (IntKind.i64.wrap ((↑i : Int) + (1 : Int))))) && (decide ((IntKind.i64.wrap ((↑i : Int) + (1 : Int))) ≤ (↑s.size : Int)))) (need (decide (((ByteArray.size (xs.getD (0 + (IntKind.i64.wrap ((↑xs.length : Int) - (1 : Int))).toNat) (ByteArray.mk #[]))) + (s.extract (↑i : Int).toNat (IntKind.i64.wrap ((↑i : Int) + (1 : Int))).toNat).size) < 9223372036854775808)) (need ((decide ((0 : Int) ≤ (IntKind.i64.wrap ((↑xs.length : Int) - (1 : Int))))) && (decide ((IntKind.i64.wrap ((↑xs.length : Int) - (1 : Int))) < (↑xs.length : Int)))) (need ((decide ((0 + (IntKind.i64.wrap ((↑xs.length : Int) - (1 : Int))).toNat) < xs.length)) && true) (rnds Tryd.prog (callOf []) (hints 23) noTab (d + 1) (lp Tryd.f23 3) [(0, (.string s)), (1, (.int .u8 c)), (5, (.slice (some (Addr.mk 0 0 none)) xs.length xs.length)), (6, (.int .i64 (IntKind.i64.wrap ((↑i : Int) + (1 : Int)))))] [(.row strC 1 (xs.set (0 + (IntKind.i64.wrap ((↑xs.length : Int) - (1 : Int))).toNat) ((xs.getD (0 + (IntKind.i64.wrap ((↑xs.length : Int) - (1 : Int))).toNat) (ByteArray.mk #[])) ++ (s.extract (↑i : Int).toNat (IntKind.i64.wrap ((↑i : Int) + (1 : Int))).toNat))) .own)] K))))))))) (K (.exit 0) [(5, (.slice (some (Addr.mk 0 0 none)) xs.length xs.length))] [(.row strC 1 xs .own)])) (by kernel_rfl) ?_
    rw [hw, hw2]
    have hlast : (xs.getD (xs.length - 1) (ByteArray.mk #[])).size ≤ i := hx _ (by
      rw [List.getD_eq_getElem?_getD, List.getElem?_eq_getElem (by omega)]
      exact List.getElem_mem _)
    have hlast2 := hlast
    rw [List.getD_eq_getElem?_getD] at hlast2
    have hone : (s.extract i (i + 1)).size = 1 := by rw [ByteArray.size_extract]; omega
    refine bcase_t (by simp; omega) (need_of (by simp; omega) (bcase_of (fun h => ?_) (fun h => ?_)))
    · refine need_of (by simp; omega) ?_
      have e : cutStep s c xs i = xs ++ [ByteArray.mk #[]] := by unfold cutStep; rw [if_pos h]
      rw [e] at ih
      have := ih (by simp) (by simp; omega) (fun x hx' => by
        rcases List.mem_append.1 hx' with hx' | hx'
        · have := hx x hx'; omega
        · rw [List.mem_singleton.1 hx']; exact Nat.zero_le _) (by rw [← e]; exact hK)
      simpa using this
    · have e : cutStep s c xs i = xs.set (xs.length - 1) (xs.getD (xs.length - 1) (ByteArray.mk #[]) ++ s.extract i (i + 1)) := by unfold cutStep; rw [h]; rfl
      rw [e] at ih
      have := ih (by simpa using h0) (by simp; omega) (fun x hx' => by
        rcases List.mem_or_eq_of_mem_set hx' with hx' | rfl
        · have := hx x hx'; omega
        · rw [ByteArray.size_append, hone]; omega) (by rw [← e]; exact hK)
      refine need_of (by simp; omega) (need_of (by simp; omega) (need_of (by simp; omega) (need_of ?_ (need_of (by simp; omega) (need_of (by simp; omega) ?_)))))
      · simp only [Int.toNat_natCast, Nat.zero_add]
        rw [hone]
        simp
        omega
      · simpa using this
theorem cutLp_ok : CodeOk Tryd.prog Tryd.f23.ntmps (.loop (lp Tryd.f23 3)) cutLp := by
  refine loop_ok (call := callOf []) (hint := hints 23) (tb := noTab) hm callOf_nil (by kernel_rfl) (by repeat' first | exact trivial | constructor | (intro _ h; cases h)) fun fr H K h => ?_
  unfold cutLp at h
  split at h
  · obtain ⟨⟨hs, rfl, rfl, rfl, rfl⟩, hK⟩ := h
    exact ⟨_, cut_rounds _ _ hs _ _ 0 [ByteArray.mk #[]] (Nat.zero_add _) (by simp) (by simp) (fun x hx => by rw [List.mem_singleton.1 hx]; exact Nat.zero_le _) hK⟩
  · exact h.elim

def tab23 : Tab := ⟨fun | 3 => some cutLp | _ => none, fun _ => none⟩
def cutG : Mem
  | [.string s, .int .u8 c] => some (s.size < 2 ^ 40, .slice (some ⟨0, 0, none⟩) (cutAll s c).length (cutAll s c).length, [.row strC 1 (cutAll s c) .own])
  | _ => none
theorem cut_ok : MemOk Tryd.prog 23 cutG := by
  refine .of_run (call := callOf []) (hint := hints 23) (tb := tab23) hm callOf_nil Tryd.func23 (by kernel_rfl) rfl (by kernel_rfl)
    (by repeat' first | exact trivial | constructor | (intro _ h; cases h; exact cutLp_ok) | (intro _ h; cases h)) fun args c r G h => ?_
  unfold cutG at h
  split at h
  · rename_i s c
    cases h
    refine ⟨rfl, fun hs => ⟨1, fun K hK => ?_⟩⟩
    refine to (R := ((s.size < (2 ^ 40)) ∧ (((0 : Int) = (0 : Int)) ∧ ((1 = 1) ∧ ((1 = 1) ∧ ((canonH [(0, (.string s)), (1, (.int .u8 c)), (5, (.slice (some (Addr.mk 0 0 none)) 1 1)), (6, (.int .i64 (0 : Int)))] [(.row strC 1 [(ByteArray.mk #[])] .own)]) = [(.row strC 1 [(ByteArray.mk #[])] .own)]))))) ∧ (K (.slice (some (Addr.mk 0 0 none)) (cutAll s c).length (cutAll s c).length) [(.row strC 1 (cutAll s c) .own)])) (by kernel_rfl) ?_
    exact ⟨⟨hs, rfl, rfl, rfl, rfl⟩, hK⟩
  · cases h

/-- Are all bytes of a text some of another one? -/
def someOf (t : ByteArray) (c : Int) (k n : Nat) : Bool := (List.range' k n).any fun j => c == bt t j
def ofFrom (s t : ByteArray) (i n : Nat) : Bool := (List.range' i n).all fun j => someOf t (bt s j) 0 t.size
def innerLp : LSpec
  | [(0, .string s), (1, .string t), (5, .int .i64 i), (6, .bool ok), (7, .int .i64 k)], [], K => (0 ≤ i ∧ i < s.size ∧ k = 0 ∧ t.size < 2 ^ 62) ∧
      K (.exit 2) [(0, .string s), (1, .string t), (5, .int .i64 i), (6, .bool (ok || someOf t (bt s i) 0 t.size))] []
  | _, _, _ => False
theorem inner_rounds (s t : ByteArray) (i : Int) (h0 : 0 ≤ i) (h1 : i < s.size) (ht : t.size < 2 ^ 62) (K : Kont) : ∀ (d k : Nat) (ok : Bool), k + d = t.size →
    K (.exit 2) [(0, .string s), (1, .string t), (5, .int .i64 i), (6, .bool (ok || someOf t (bt s i) k d))] [] →
    rnds Tryd.prog (callOf []) (hints 35) noTab (d + 1) (lp Tryd.f35 6) [(0, .string s), (1, .string t), (5, .int .i64 i), (6, .bool ok), (7, .int .i64 k)] [] K
  | 0, k, ok, hk, hK => by
    refine to (R := bcase (decide ((↑k : Int) < (↑t.size : Int))) (bcase ok (rnds Tryd.prog (callOf []) (hints 35) noTab (nat_lit 0) (lp Tryd.f35 6) [(0, (.string s)), (1, (.string t)), (5, (.int .i64 i)), (6, (.bool true)), (7, (.int .i64 (IntKind.i64.wrap ((↑k : Int) + (1 : Int)))))] [] K) (need ((decide ((0 : Int) ≤ i)) && (decide (i < (↑s.size : Int)))) (need (decide ((↑k : Int) < (↑t.size : Int))) (rnds Tryd.prog (callOf []) (hints 35) noTab (nat_lit 0) (lp Tryd.f35 6) [(0, (.string s)), (1, (.string t)), (5, (.int .i64 i)), (6, (.bool ((bt s i) == (bt t (↑k : Int))))), (7, (.int .i64 (IntKind.i64.wrap ((↑k : Int) + (1 : Int)))))] [] K)))) (K (.exit 2) [(0, (.string s)), (1, (.string t)), (5, (.int .i64 i)), (6, (.bool ok))] [])) (by kernel_rfl) ?_
    refine bcase_f (by simp; omega) ?_
    simpa [someOf] using hK
  | d + 1, k, ok, hk, hK => by
    have hw : IntKind.i64.wrap ((k : Int) + 1) = ((k + 1 : Nat) : Int) := wrap_id (by omega) (by omega)
    have hin : (decide ((0 : Int) ≤ i) && decide (i < (s.size : Int))) = true := by simp; omega
    have hs : someOf t (bt s i) k (d + 1) = (bt s i == bt t k || someOf t (bt s i) (k + 1) d) := by simp [someOf, List.range'_succ]
    rw [hs] at hK
    refine to (R := bcase (decide ((↑k : Int) < (↑t.size : Int))) (bcase ok (rnds Tryd.prog (callOf []) (hints 35) noTab (d + 1) (lp Tryd.f35 6) [(0, (.string s)), (1, (.string t)), (5, (.int .i64 i)), (6, (.bool true)), (7, (.int .i64 (IntKind.i64.wrap ((↑k : Int) + (1 : Int)))))] [] K) (need ((decide ((0 : Int) ≤ i)) && (decide (i < (↑s.size : Int)))) (need (decide ((↑k : Int) < (↑t.size : Int))) (rnds Tryd.prog (callOf []) (hints 35) noTab (d + 1) (lp Tryd.f35 6) [(0, (.string s)), (1, (.string t)), (5, (.int .i64 i)), (6, (.bool ((bt s i) == (bt t (↑k : Int))))), (7, (.int .i64 (IntKind.i64.wrap ((↑k : Int) + (1 : Int)))))] [] K)))) (K (.exit 2) [(0, (.string s)), (1, (.string t)), (5, (.int .i64 i)), (6, (.bool ok))] [])) (by kernel_rfl) ?_
    rw [hw]
    refine bcase_t (by simp; omega) (bcase_of (fun h => ?_) (fun h => need_of hin (need_of (by simp; omega) ?_)))
    · subst h
      exact inner_rounds s t i h0 h1 ht K d (k + 1) true (by omega) (by simpa using hK)
    · subst h
      exact inner_rounds s t i h0 h1 ht K d (k + 1) _ (by omega) (by simpa using hK)
theorem innerLp_ok : CodeOk Tryd.prog Tryd.f35.ntmps (.loop (lp Tryd.f35 6)) innerLp := by
  refine loop_ok (call := callOf []) (hint := hints 35) (tb := noTab) hm callOf_nil (by kernel_rfl) (by repeat' first | exact trivial | constructor | (intro _ h; cases h)) fun fr H K h => ?_
  unfold innerLp at h
  split at h
  · rename_i s t i ok k
    obtain ⟨⟨h0, h1, rfl, ht⟩, hK⟩ := h
    exact ⟨_, inner_rounds s t i h0 h1 ht K t.size 0 ok (by omega) hK⟩
  · exact h.elim
def outerLp : LSpec
  | [(0, .string s), (1, .string t), (5, .int .i64 i)], [], K => (i = 0 ∧ t.size < 2 ^ 62 ∧ s.size < 2 ^ 62) ∧ bcase (ofFrom s t 0 s.size) (K (.exit 0) [] []) (K .ret [(4, .bool false)] [])
  | _, _, _ => False
def tab35 : Tab := ⟨fun | 6 => some innerLp | _ => none, fun _ => none⟩
theorem outer_rounds (s t : ByteArray) (hs : s.size < 2 ^ 62) (ht : t.size < 2 ^ 62) (K : Kont) : ∀ (d i : Nat), i + d = s.size →
    bcase (ofFrom s t i d) (K (.exit 0) [] []) (K .ret [(4, .bool false)] []) →
    rnds Tryd.prog (callOf []) (hints 35) tab35 (d + 1) (lp Tryd.f35 2) [(0, .string s), (1, .string t), (5, .int .i64 i)] [] K
  | 0, i, hi, hK => by
    refine to (R := bcase (decide ((↑i : Int) < (↑s.size : Int))) ((((0 : Int) ≤ (↑i : Int)) ∧ (((↑i : Int) < (↑s.size : Int)) ∧ (((0 : Int) = (0 : Int)) ∧ (t.size < (2 ^ 62))))) ∧ (bcase (!(someOf t (bt s (↑i : Int)) 0 t.size)) (K .ret [(4, (.bool false))] []) (rnds Tryd.prog (callOf []) (hints 35) tab35 (nat_lit 0) (lp Tryd.f35 2) [(0, (.string s)), (1, (.string t)), (5, (.int .i64 (IntKind.i64.wrap ((↑i : Int) + (1 : Int)))))] [] K))) (K (.exit 0) [] [])) (by kernel_rfl) ?_
    refine bcase_f (by simp; omega) ?_
    simpa [ofFrom, bcase] using hK
  | d + 1, i, hi, hK => by
    have hw : IntKind.i64.wrap ((i : Int) + 1) = ((i + 1 : Nat) : Int) := wrap_id (by omega) (by omega)
    have hs2 : ofFrom s t i (d + 1) = (someOf t (bt s i) 0 t.size && ofFrom s t (i + 1) d) := by simp [ofFrom, List.range'_succ]
    rw [hs2] at hK
    refine to (R := bcase (decide ((↑i : Int) < (↑s.size : Int))) ((((0 : Int) ≤ (↑i : Int)) ∧ (((↑i : Int) < (↑s.size : Int)) ∧ (((0 : Int) = (0 : Int)) ∧ (t.size < (2 ^ 62))))) ∧ (bcase (!(someOf t (bt s (↑i : Int)) 0 t.size)) (K .ret [(4, (.bool false))] []) (rnds Tryd.prog (callOf []) (hints 35) tab35 (d + 1) (lp Tryd.f35 2) [(0, (.string s)), (1, (.string t)), (5, (.int .i64 (IntKind.i64.wrap ((↑i : Int) + (1 : Int)))))] [] K))) (K (.exit 0) [] [])) (by kernel_rfl) ?_
    rw [hw]
    refine bcase_t (by simp; omega) ⟨⟨by omega, by omega, rfl, ht⟩, ?_⟩
    refine bcase_of (fun h => ?_) (fun h => ?_)
    · have : someOf t (bt s i) 0 t.size = false := by simpa using h
      rw [this] at hK
      exact hK
    · have : someOf t (bt s i) 0 t.size = true := by simpa using h
      rw [this, Bool.true_and] at hK
      exact outer_rounds s t hs ht K d (i + 1) (by omega) hK
theorem outerLp_ok : CodeOk Tryd.prog Tryd.f35.ntmps (.loop (lp Tryd.f35 2)) outerLp := by
  refine loop_ok (call := callOf []) (hint := hints 35) (tb := tab35) hm callOf_nil (by kernel_rfl) (by repeat' first | exact trivial | constructor | (intro _ h; cases h; exact innerLp_ok) | (intro _ h; cases h)) fun fr H K h => ?_
  unfold outerLp at h
  split at h
  · rename_i s t i
    obtain ⟨⟨rfl, ht, hs⟩, hK⟩ := h
    exact ⟨_, outer_rounds s t hs ht K s.size 0 (by omega) hK⟩
  · exact h.elim
def tab35' : Tab := ⟨fun | 6 => some innerLp | 2 => some outerLp | _ => none, fun _ => none⟩
def ofG : Pure
  | [.string s, .string t] => some (s.size < 2 ^ 62 ∧ t.size < 2 ^ 62, .bool (ofFrom s t 0 s.size))
  | _ => none
theorem of_ok : PureOk Tryd.prog 35 ofG := by
  refine .of_run (call := callOf []) (hint := hints 35) (tb := tab35') hm callOf_nil Tryd.func35 (by kernel_rfl) rfl (by kernel_rfl)
    (by repeat' first | exact trivial | constructor | (intro _ h; cases h; exact innerLp_ok) | (intro _ h; cases h; exact outerLp_ok) | (intro _ h; cases h)) fun args c r h => ?_
  unfold ofG at h
  split at h
  · rename_i s t
    cases h
    refine ⟨rfl, fun hs => ⟨rfl, 1, fun K hK => ?_⟩⟩
    refine to (R := (((0 : Int) = (0 : Int)) ∧ ((t.size < (2 ^ 62)) ∧ (s.size < (2 ^ 62)))) ∧ (bcase (ofFrom s t 0 s.size) (K (.bool true) []) (K (.bool false) []))) (by kernel_rfl) ?_
    refine ⟨⟨rfl, hs.2, hs.1⟩, bcase_of (fun h => ?_) (fun h => ?_)⟩
    · rw [h] at hK; exact hK []
    · rw [h] at hK; exact hK []
  · cases h
end Go.Proofs.YtofcjkbgieenlaaDoor.PM

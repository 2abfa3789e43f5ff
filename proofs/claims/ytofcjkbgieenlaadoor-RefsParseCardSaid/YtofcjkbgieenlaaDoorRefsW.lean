/- Contract of digests.Parse. By an AI agent. -/
import Derived.Test.YtofcjkbgieenlaaDoorRefsV
namespace Go.Proofs.YtofcjkbgieenlaaDoor.PM
open Go Go.Proofs Go.RowKit
set_option maxRecDepth 100000
set_option linter.unusedVariables false
set_option linter.unusedSimpArgs false

abbrev rowD (x : List Int) : VB := .row (arrC .u8) 32 [x] .own
def pdStep (s : ByteArray) (pos : Nat) (x : List Int) : List Int :=
  x.set (pos / 2) (IntKind.u8.wrap (IntKind.u8.wrap (x.getD (pos / 2) 0 * (2 : Int) ^ 4) + IntKind.u8.wrap (irH ((Utf8.decode s pos).1 : Int))))
/-- What a digest's digits say. -/
def pd (s : ByteArray) : Nat → Nat → List Int → Option (List Int)
  | 0, _, _ => none
  | d + 1, pos, x => bif decide (pos < s.size) then (bif decide (irH ((Utf8.decode s pos).1 : Int) < 0) then none else pd s d (pos + (Utf8.decode s pos).2) (pdStep s pos x)) else some x
theorem u8_range (x : Int) : 0 ≤ IntKind.u8.wrap x ∧ IntKind.u8.wrap x < 256 := by
  show 0 ≤ x % 256 ∧ x % 256 < 256
  omega
theorem pd_bytes (s : ByteArray) : ∀ (d pos : Nat) (x y : List Int), bytesL x → x.length = 32 → pd s d pos x = some y → bytesL y ∧ y.length = 32
  | 0, _, _, _, _, _, h => by cases h
  | d + 1, pos, x, y, h1, h2, h => by
    unfold pd at h
    cases hp : decide (pos < s.size) with
    | false => rw [hp] at h; cases h; exact ⟨h1, h2⟩
    | true =>
      rw [hp, cond_true] at h
      cases hn : decide (irH ((Utf8.decode s pos).1 : Int) < 0) with
      | true => rw [hn] at h; cases h
      | false =>
        rw [hn, cond_false] at h
        refine pd_bytes s d _ _ y (set_bytes h1 (u8_range _).1 (u8_range _).2) ?_ h
        rw [List.length_set]
        exact h2
def digLp : LSpec
  | [(2, .pointer (some ⟨0, 0, some 0⟩)), (4, .pointer (some ⟨1, 0, some 0⟩)), (24, .pointer (some ⟨2, 0, some 0⟩))], H, K => ∃ s : ByteArray, (H = [rowD zerosL, rowD zerosL, .iter s 0] ∧ s.size = 64) ∧
      bcase (pd s 65 0 zerosL).isSome (∀ p, K (.exit 0) [(2, pt 0), (4, pt 1)] [rowD zerosL, rowD ((pd s 65 0 zerosL).getD zerosL), .iter s p]) (∀ x p, K .ret [(2, pt 0), (3, .int .i64 10)] [rowD zerosL, rowD x, .iter s p])
  | _, _, _ => False
theorem pd_rounds (s : ByteArray) (hs : s.size = 64) (K : Kont) : ∀ (d pos : Nat) (x : List Int), s.size ≤ pos + d →
    bcase (pd s (d + 1) pos x).isSome (∀ p, K (.exit 0) [(2, pt 0), (4, pt 1)] [rowD zerosL, rowD ((pd s (d + 1) pos x).getD zerosL), .iter s p]) (∀ x p, K .ret [(2, pt 0), (3, .int .i64 10)] [rowD zerosL, rowD x, .iter s p]) →
    rnds Tryd.prog (callOf [(37, pureS irHG)]) (hints 19) noTab (d + 1) (lp Tryd.f19 6) [(2, pt 0), (4, pt 1), (24, pt 2)] [rowD zerosL, rowD x, .iter s pos] K
  | 0, pos, x, hd, hK => by
    have h0 : decide (pos < s.size) = false := decide_eq_false (by omega)
    rw [pd, h0] at hK
    refine to (R := bcase (decide (pos < s.size)) ((((ByteArray.mk #[48, 49, 50, 51, 52, 53, 54, 55, 56, 57, 97, 98, 99, 100, 101, 102]) = hexT) ∧ (((0 : Int) ≤ (↑(Utf8.decode s pos).fst : Int)) ∧ ((↑(Utf8.decode s pos).fst : Int) ≤ (2147483647 : Int)))) ∧ (bcase (decide ((irH (↑(Utf8.decode s pos).fst : Int)) < (0 : Int))) (K .ret [(2, (.pointer (some (Addr.mk 0 0 (some 0))))), (3, (.int .i64 (10 : Int)))] [(VB.row (arrC .u8) 32 [zerosL] .own), (VB.row (arrC .u8) 32 [x] .own), (VB.iter s (pos + (Utf8.decode s pos).snd))]) (need ((decide ((0 : Int) ≤ (IntKind.i64.wrap ((↑pos : Int).tdiv (2 : Int))))) && (decide ((IntKind.i64.wrap ((↑pos : Int).tdiv (2 : Int))) < (↑32 : Int)))) (need (((IntKind.i64.wrap ((↑pos : Int).tdiv (2 : Int))).toNat + 1).ble 32) (need ((decide ((0 : Int) ≤ (IntKind.i64.wrap ((↑pos : Int).tdiv (2 : Int))))) && (decide ((IntKind.i64.wrap ((↑pos : Int).tdiv (2 : Int))) < (↑32 : Int)))) (need (((IntKind.i64.wrap ((↑pos : Int).tdiv (2 : Int))).toNat + 1).ble 32) (rnds Tryd.prog (callOf [(37, (pureS irHG))]) (hints 19) noTab (nat_lit 0) (lp Tryd.f19 6) [(2, (.pointer (some (Addr.mk 0 0 (some 0))))), (4, (.pointer (some (Addr.mk 1 0 (some 0))))), (24, (.pointer (some (Addr.mk 2 0 (some 0)))))] [(VB.row (arrC .u8) 32 [zerosL] .own), (VB.row (arrC .u8) 32 [(x.set (IntKind.i64.wrap ((↑pos : Int).tdiv (2 : Int))).toNat (IntKind.u8.wrap ((IntKind.u8.wrap ((x.getD (IntKind.i64.wrap ((↑pos : Int).tdiv (2 : Int))).toNat (0 : Int)) * ((2 : Int) ^ 4))) + (IntKind.u8.wrap (irH (↑(Utf8.decode s pos).fst : Int))))))] .own), (VB.iter s (pos + (Utf8.decode s pos).snd))] K))))))) (K (.exit 0) [(2, (.pointer (some (Addr.mk 0 0 (some 0))))), (4, (.pointer (some (Addr.mk 1 0 (some 0)))))] [(VB.row (arrC .u8) 32 [zerosL] .own), (VB.row (arrC .u8) 32 [x] .own), (VB.iter s pos)])) (by kernel_rfl) ?_
    exact bcase_f h0 (hK _)
  | d + 1, pos, x, hd, hK => by
    have ih := pd_rounds s hs K d (pos + (Utf8.decode s pos).2) (pdStep s pos x)
    have hle := decode_le s pos
    have hpos := dec_pos s pos
    rw [pd] at hK
    have hw : pos < 64 → IntKind.i64.wrap ((pos : Int).tdiv 2) = ((pos / 2 : Nat) : Int) := fun h => by
      rw [Int.tdiv_eq_ediv_of_nonneg (by omega), wrap_id (by omega) (by omega)]
      omega
    obtain ⟨n, hn⟩ : ∃ n, n = d + 1 := ⟨_, rfl⟩; rw [← hn] at ih ⊢
    refine to (R := bcase (decide (pos < s.size)) ((((ByteArray.mk #[48, 49, 50, 51, 52, 53, 54, 55, 56, 57, 97, 98, 99, 100, 101, 102]) = hexT) ∧ (((0 : Int) ≤ (↑(Utf8.decode s pos).fst : Int)) ∧ ((↑(Utf8.decode s pos).fst : Int) ≤ (2147483647 : Int)))) ∧ (bcase (decide ((irH (↑(Utf8.decode s pos).fst : Int)) < (0 : Int))) (K .ret [(2, (.pointer (some (Addr.mk 0 0 (some 0))))), (3, (.int .i64 (10 : Int)))] [(VB.row (arrC .u8) 32 [zerosL] .own), (VB.row (arrC .u8) 32 [x] .own), (VB.iter s (pos + (Utf8.decode s pos).snd))]) (need ((decide ((0 : Int) ≤ (IntKind.i64.wrap ((↑pos : Int).tdiv (2 : Int))))) && (decide ((IntKind.i64.wrap ((↑pos : Int).tdiv (2 : Int))) < (↑32 : Int)))) (need (((IntKind.i64.wrap ((↑pos : Int).tdiv (2 : Int))).toNat + 1).ble 32) (need ((decide ((0 : Int) ≤ (IntKind.i64.wrap ((↑pos : Int).tdiv (2 : Int))))) && (decide ((IntKind.i64.wrap ((↑pos : Int).tdiv (2 : Int))) < (↑32 : Int)))) (need (((IntKind.i64.wrap ((↑pos : Int).tdiv (2 : Int))).toNat + 1).ble 32) (rnds Tryd.prog (callOf [(37, (pureS irHG))]) (hints 19) noTab n (lp Tryd.f19 6) [(2, (.pointer (some (Addr.mk 0 0 (some 0))))), (4, (.pointer (some (Addr.mk 1 0 (some 0))))), (24, (.pointer (some (Addr.mk 2 0 (some 0)))))] [(VB.row (arrC .u8) 32 [zerosL] .own), (VB.row (arrC .u8) 32 [(x.set (IntKind.i64.wrap ((↑pos : Int).tdiv (2 : Int))).toNat (IntKind.u8.wrap ((IntKind.u8.wrap ((x.getD (IntKind.i64.wrap ((↑pos : Int).tdiv (2 : Int))).toNat (0 : Int)) * ((2 : Int) ^ 4))) + (IntKind.u8.wrap (irH (↑(Utf8.decode s pos).fst : Int))))))] .own), (VB.iter s (pos + (Utf8.decode s pos).snd))] K))))))) (K (.exit 0) [(2, (.pointer (some (Addr.mk 0 0 (some 0))))), (4, (.pointer (some (Addr.mk 1 0 (some 0)))))] [(VB.row (arrC .u8) 32 [zerosL] .own), (VB.row (arrC .u8) 32 [x] .own), (VB.iter s pos)])) (by kernel_rfl) ?_
    refine bcase_of (fun h => ⟨⟨rfl, by omega, by omega⟩, bcase_of (fun h2 => ?_) (fun h2 => ?_)⟩) (fun h => ?_)
    · simp only [h, h2, cond_true] at hK
      exact hK _ _
    · have hlt := of_decide_eq_true h
      simp only [h, h2, cond_true, cond_false] at hK
      have := hpos hlt
      rw [hw (by omega)]
      rw [← hn] at hK
      simp only [Int.toNat_natCast]
      exact need_of (by simp; omega) (need_of (by simp; omega) (need_of (by simp; omega) (need_of (by simp; omega) (ih (by omega) hK))))
    · simp only [h, cond_false] at hK
      exact hK _
theorem digLp_ok : CodeOk Tryd.prog Tryd.f19.ntmps (.loop (lp Tryd.f19 6)) digLp := by
  refine loop_ok (call := callOf [(37, pureS irHG)]) (hint := hints 19) (tb := noTab) hm (callOf_cons irH_ok.spec callOf_nil) (by kernel_rfl) (by repeat' first | exact trivial | constructor |  (intro _ h; cases h)) fun fr H K h => ?_
  unfold digLp at h
  split at h
  · obtain ⟨s, ⟨rfl, hs⟩, hK⟩ := h
    exact ⟨65, pd_rounds s hs _ 64 0 _ (by omega) hK⟩
  · exact h.elim
attribute [irreducible] pd
def tab19 : Tab := ⟨fun | 6 => some digLp | _ => none, fun _ => none⟩
def restS (s : ByteArray) : ByteArray := tpS s headT
def pdOk (s : ByteArray) : Bool := hpS s headT && (((restS s).size : Int) == 64 && (pd (restS s) 65 0 zerosL).isSome)
@[irreducible] def pparseX (s : ByteArray) : List Int := bif pdOk s then (pd (restS s) 65 0 zerosL).getD zerosL else zerosL
@[irreducible] def pparseE (s : ByteArray) : Int := bif pdOk s then 0 else 10
def pparseG : Pure
  | [.string s] => some (s.size < 2 ^ 40, .tuple ⟨[.agg ⟨digL (pparseX s)⟩, .int .i64 (pparseE s)]⟩)
  | _ => none
theorem pparse_ok : PureOk Tryd.prog 19 pparseG := by
  refine .of_run (call := callOf [(28, pureS (two (fun s t => True) fun s t => .tuple #[.string ⟨(Lib.trimPrefix s.data.toList t.data.toList).toArray⟩, .bool (Lib.hasPrefix s.data.toList t.data.toList)]))]) (hint := hints 19) (tb := tab19) hm (callOf_cons cutPrefix_ok.spec callOf_nil) Tryd.func19 (by kernel_rfl) rfl (by kernel_rfl) (by repeat' first | exact trivial | constructor | (intro _ h; cases h; exact digLp_ok) | (intro _ h; cases h)) fun args c r h => ?_
  unfold pparseG at h
  split at h
  · rename_i s
    cases h
    refine ⟨rfl, fun hs => ⟨rfl, 1, fun K hK => ?_⟩⟩
    have hK := hK []
    have hX : pparseX s = bif pdOk s then (pd (restS s) 65 0 zerosL).getD zerosL else zerosL := by unfold pparseX; rfl
    have hE : pparseE s = bif pdOk s then 0 else 10 := by unfold pparseE; rfl
    have hlen : ((pd (restS s) 65 0 zerosL).getD zerosL).length = 32 := by
      cases h : pd (restS s) 65 0 zerosL with
      | none => rfl
      | some y => exact (pd_bytes _ _ _ _ _ zeros_bytes rfl h).2
    have hd := decI_digL hlen
    have hz : decI (digL zerosL) = zerosL := decI_digL rfl
    rw [hX, hE] at hK
    clear hX hE
    simp only [pdOk, restS] at hK hd
    refine to (R := True ∧ (bcase (!(Lib.hasPrefix s.data.toList (ByteArray.mk #[115, 104, 97, 50, 53, 54, 58]).data.toList)) (K (.tuple (Array.mk [(.agg (Array.mk (digL zerosL))), (.int .i64 (10 : Int))])) []) (bcase ((↑(ByteArray.mk (Lib.trimPrefix s.data.toList (ByteArray.mk #[115, 104, 97, 50, 53, 54, 58]).data.toList).toArray).size : Int) != (64 : Int)) (K (.tuple (Array.mk [(.agg (Array.mk (digL zerosL))), (.int .i64 (10 : Int))])) []) (∃ (s_1 : ByteArray), ((([(VB.row (arrC .u8) 32 [zerosL] .own), (VB.row (arrC .u8) 32 [zerosL] .own), (VB.iter (ByteArray.mk (Lib.trimPrefix s.data.toList (ByteArray.mk #[115, 104, 97, 50, 53, 54, 58]).data.toList).toArray) 0)] = [(VB.row (arrC .u8) 32 [zerosL] .own), (VB.row (arrC .u8) 32 [zerosL] .own), (VB.iter s_1 0)]) ∧ (s_1.size = 64)) ∧ (bcase (pd s_1 65 0 zerosL).isSome (∀ (p : Nat), (K (.tuple (Array.mk [(.agg (Array.mk (digL (decI (digL ((pd s_1 65 0 zerosL).getD zerosL)))))), (.int .i64 (0 : Int))])) [])) (∀ (x : (List Int)) (p : Nat), (K (.tuple (Array.mk [(.agg (Array.mk (digL zerosL))), (.int .i64 (10 : Int))])) [])))))))) (by kernel_rfl) ?_
    refine ⟨trivial, bcase_not (bcase_of (fun h1 => ?_) (fun h1 => ?_))⟩
    · simp only [h1, Bool.true_and] at hK
      refine bcase_of (fun h2 => ?_) (fun h2 => ⟨_, ⟨rfl, ?_⟩, bcase_of (fun h3 => ?_) (fun h3 => ?_)⟩)
      · simp only [show (((tpS s headT).size : Int) == 64) = false from (Bool.not_eq_true' _).mp h2, Bool.false_and, cond_false] at hK
        exact hK
      · have h4 : (((tpS s headT).size : Int) == 64) = true := (Bool.not_eq_false' _).mp h2
        rw [beq_iff_eq] at h4
        show (tpS s headT).size = 64
        omega
      · have h4 : (((tpS s headT).size : Int) == 64) = true := (Bool.not_eq_false' _).mp h2
        intro p
        show K (.tuple ⟨[.agg ⟨digL (decI (digL ((pd (tpS s headT) 65 0 zerosL).getD zerosL)))⟩, .int .i64 0]⟩) []
        rw [hd]
        simp only [h4, show (pd (tpS s headT) 65 0 zerosL).isSome = true from h3, Bool.and_self, cond_true] at hK
        exact hK
      · intro x p
        simp only [show (pd (tpS s headT) 65 0 zerosL).isSome = false from h3, Bool.and_false, cond_false] at hK
        exact hK
    · simp only [h1, Bool.false_and, cond_false] at hK
      exact hK
  · cases h
theorem pparse_bytes (s : ByteArray) : bytesL (pparseX s) ∧ (pparseX s).length = 32 := by
  unfold pparseX
  cases pdOk s with
  | false => exact ⟨zeros_bytes, rfl⟩
  | true =>
    cases h : pd (restS s) 65 0 zerosL with
    | none => exact ⟨zeros_bytes, rfl⟩
    | some y => exact pd_bytes _ _ _ _ _ zeros_bytes rfl h
end Go.Proofs.YtofcjkbgieenlaaDoor.PM

/- Contracts of functions of the reference of digests: Parse. By an AI agent. -/
import Derived.Test.YtofcjkbgieenlaaDoorRefsE
namespace Go.Proofs.YtofcjkbgieenlaaDoor.PM
open Go Go.Proofs
set_option maxRecDepth 100000
set_option linter.unusedVariables false

def zerosL : List Int := [0, 0, 0, 0, 0, 0, 0, 0, 0, 0, 0, 0, 0, 0, 0, 0, 0, 0, 0, 0, 0, 0, 0, 0, 0, 0, 0, 0, 0, 0, 0, 0]
theorem valAt_lt (c : Int) : ∀ (d : Nat) (i v : Int), 0 ≤ i → i + d = 16 → valAt c d i = some v → 0 ≤ v ∧ v < 16
  | 0, i, v, _, _, h => by cases h
  | d + 1, i, v, h0, hi, h => by
    unfold valAt at h
    cases hb : (bt (hexS i) 0 == c) with
    | true => rw [hb] at h; cases h; omega
    | false => rw [hb] at h; exact valAt_lt c d (i + 1) v (by omega) (by omega) h
theorem valS_lt (c : Int) : 0 ≤ valS c ∧ valS c < 16 := by
  unfold valS
  cases h : valAt c 16 0 with
  | none => simp
  | some v => exact valAt_lt c 16 0 v (by omega) (by omega) h
/-- What a text's digits say, from one on. -/
def readFrom (s : ByteArray) : Nat → Nat → List Int → List Int
  | 0, _, x => x
  | d + 1, i, x => bif decide (7 + 2 * i + 1 < s.size) then readFrom s d (i + 1) (x.set i (16 * valS (bt s ((7 + 2 * i : Nat) : Int)) + valS (bt s ((8 + 2 * i : Nat) : Int)))) else x
@[irreducible] def readS (s : ByteArray) : List Int := readFrom s 32 0 zerosL
theorem set_bytes {x : List Int} (h : bytesL x) {i : Nat} {v : Int} (h0 : 0 ≤ v) (h1 : v < 256) : bytesL (x.set i v) := fun j => by
  have := h j
  rw [List.getD_eq_getElem?_getD] at this ⊢
  rw [List.getElem?_set]
  split
  · split
    · exact ⟨h0, h1⟩
    · simp
  · exact this
theorem readFrom_bytes (s : ByteArray) : ∀ (d i : Nat) (x : List Int), bytesL x → x.length = 32 → bytesL (readFrom s d i x) ∧ (readFrom s d i x).length = 32
  | 0, i, x, h, hl => ⟨h, hl⟩
  | d + 1, i, x, h, hl => by
    unfold readFrom
    cases decide (7 + 2 * i + 1 < s.size) with
    | false => exact ⟨h, hl⟩
    | true =>
      have h1 := valS_lt (bt s ((7 + 2 * i : Nat) : Int))
      have h2 := valS_lt (bt s ((8 + 2 * i : Nat) : Int))
      exact readFrom_bytes s d (i + 1) _ (set_bytes h (by omega) (by omega)) (by rw [List.length_set, hl])
theorem zeros_bytes : bytesL zerosL := fun i => by
  rw [List.getD_eq_getElem?_getD]
  cases h : zerosL[i]? with
  | none => simp
  | some v =>
    have := List.mem_of_getElem? h
    simp [zerosL] at this
    subst this
    simp
theorem readS_bytes (s : ByteArray) : bytesL (readS s) ∧ (readS s).length = 32 := by unfold readS; exact readFrom_bytes s 32 0 zerosL zeros_bytes rfl
def rparseLp : LSpec
  | [(0, .string s), (2, .pointer (some ⟨0, 0, some 0⟩)), (4, .pointer (some ⟨1, 0, some 0⟩)), (5, .int .i64 i)], H, K => (i = 0 ∧ s.size < 2 ^ 40 ∧ H = [.row (arrC .u8) 32 [zerosL] .own, .row (arrC .u8) 32 [zerosL] .own]) ∧
    K (.exit 0) [(0, .string s), (2, .pointer (some ⟨0, 0, some 0⟩)), (4, .pointer (some ⟨1, 0, some 0⟩))] [.row (arrC .u8) 32 [zerosL] .own, .row (arrC .u8) 32 [readS s] .own]
  | _, _, _ => False
set_option linter.unusedSimpArgs false
theorem rparse_rounds (s : ByteArray) (hs : s.size < 2 ^ 40) (K : Kont) : ∀ (d i : Nat) (x : List Int), i + d = 32 →
    K (.exit 0) [(0, .string s), (2, .pointer (some ⟨0, 0, some 0⟩)), (4, .pointer (some ⟨1, 0, some 0⟩))] [.row (arrC .u8) 32 [zerosL] .own, .row (arrC .u8) 32 [readFrom s d i x] .own] →
    rnds Tryd.prog (callOf [(41, pureS tellG), (40, pureS valueG)]) (hints 24) noTab (d + 1) (lp Tryd.f24 3) [(0, .string s), (2, .pointer (some ⟨0, 0, some 0⟩)), (4, .pointer (some ⟨1, 0, some 0⟩)), (5, .int .i64 i)] [.row (arrC .u8) 32 [zerosL] .own, .row (arrC .u8) 32 [x] .own] K
  | 0, i, x, hi, hK => by
    refine to (R := bcase (decide ((↑i : Int) < (32 : Int))) (bcase (decide ((IntKind.i64.wrap ((IntKind.i64.wrap ((7 : Int) + (IntKind.i64.wrap ((2 : Int) * (↑i : Int))))) + (1 : Int))) < (↑s.size : Int))) (need (((decide ((0 : Int) ≤ (IntKind.i64.wrap ((7 : Int) + (IntKind.i64.wrap ((2 : Int) * (↑i : Int))))))) && (decide ((IntKind.i64.wrap ((7 : Int) + (IntKind.i64.wrap ((2 : Int) * (↑i : Int))))) < (↑s.size : Int)))) && true) (need (((decide ((0 : Int) ≤ (IntKind.i64.wrap ((8 : Int) + (IntKind.i64.wrap ((2 : Int) * (↑i : Int))))))) && (decide ((IntKind.i64.wrap ((8 : Int) + (IntKind.i64.wrap ((2 : Int) * (↑i : Int))))) < (↑s.size : Int)))) && true) (True ∧ (True ∧ (need ((decide ((↑i : Int) < (↑32 : Int))) && true) (need (((↑i : Int).toNat + 1).ble 32) (rnds Tryd.prog (callOf [(41, (pureS tellG)), (40, (pureS valueG))]) (hints 24) noTab (nat_lit 0) (lp Tryd.f24 3) [(0, (.string s)), (2, (.pointer (some (Addr.mk 0 0 (some 0))))), (4, (.pointer (some (Addr.mk 1 0 (some 0))))), (5, (.int .i64 (IntKind.i64.wrap ((↑i : Int) + (1 : Int)))))] [(.row (arrC .u8) 32 [zerosL] .own), (.row (arrC .u8) 32 [(x.set (↑i : Int).toNat (IntKind.u8.wrap ((IntKind.u8.wrap ((16 : Int) * (valS (bt s (IntKind.i64.wrap ((7 : Int) + (IntKind.i64.wrap ((2 : Int) * (↑i : Int))))))))) + (valS (bt s (IntKind.i64.wrap ((8 : Int) + (IntKind.i64.wrap ((2 : Int) * (↑i : Int))))))))))] .own)] K))))))) (K (.exit 0) [(0, (.string s)), (2, (.pointer (some (Addr.mk 0 0 (some 0))))), (4, (.pointer (some (Addr.mk 1 0 (some 0)))))] [(.row (arrC .u8) 32 [zerosL] .own), (.row (arrC .u8) 32 [x] .own)])) (K (.exit 0) [(0, (.string s)), (2, (.pointer (some (Addr.mk 0 0 (some 0))))), (4, (.pointer (some (Addr.mk 1 0 (some 0)))))] [(.row (arrC .u8) 32 [zerosL] .own), (.row (arrC .u8) 32 [x] .own)])) (by kernel_rfl) ?_
    exact bcase_f (by simp; omega) hK
  | d + 1, i, x, hi, hK => by
    have w0 : IntKind.i64.wrap ((i : Int) + 1) = ((i + 1 : Nat) : Int) := wrap_id (by omega) (by omega)
    have w1 : IntKind.i64.wrap (2 * (i : Int)) = ((2 * i : Nat) : Int) := wrap_id (by omega) (by omega)
    have w2 : IntKind.i64.wrap (7 + ((2 * i : Nat) : Int)) = ((7 + 2 * i : Nat) : Int) := wrap_id (by omega) (by omega)
    have w3 : IntKind.i64.wrap (((7 + 2 * i : Nat) : Int) + 1) = ((7 + 2 * i + 1 : Nat) : Int) := wrap_id (by omega) (by omega)
    have w4 : IntKind.i64.wrap (8 + ((2 * i : Nat) : Int)) = ((8 + 2 * i : Nat) : Int) := wrap_id (by omega) (by omega)
    have h1 := valS_lt (bt s ((7 + 2 * i : Nat) : Int))
    have h2 := valS_lt (bt s ((8 + 2 * i : Nat) : Int))
    have w5 : IntKind.u8.wrap (16 * valS (bt s ((7 + 2 * i : Nat) : Int))) = 16 * valS (bt s ((7 + 2 * i : Nat) : Int)) := wrap_u8 (by omega) (by omega)
    have w6 : IntKind.u8.wrap (16 * valS (bt s ((7 + 2 * i : Nat) : Int)) + valS (bt s ((8 + 2 * i : Nat) : Int))) = 16 * valS (bt s ((7 + 2 * i : Nat) : Int)) + valS (bt s ((8 + 2 * i : Nat) : Int)) := wrap_u8 (by omega) (by omega)
    have ih := rparse_rounds s hs K d (i + 1)
    obtain ⟨n, hn⟩ : ∃ n, n = d + 1 := ⟨_, rfl⟩; rw [← hn] at ih ⊢
    refine to (R := bcase (decide ((↑i : Int) < (32 : Int))) (bcase (decide ((IntKind.i64.wrap ((IntKind.i64.wrap ((7 : Int) + (IntKind.i64.wrap ((2 : Int) * (↑i : Int))))) + (1 : Int))) < (↑s.size : Int))) (need (((decide ((0 : Int) ≤ (IntKind.i64.wrap ((7 : Int) + (IntKind.i64.wrap ((2 : Int) * (↑i : Int))))))) && (decide ((IntKind.i64.wrap ((7 : Int) + (IntKind.i64.wrap ((2 : Int) * (↑i : Int))))) < (↑s.size : Int)))) && true) (need (((decide ((0 : Int) ≤ (IntKind.i64.wrap ((8 : Int) + (IntKind.i64.wrap ((2 : Int) * (↑i : Int))))))) && (decide ((IntKind.i64.wrap ((8 : Int) + (IntKind.i64.wrap ((2 : Int) * (↑i : Int))))) < (↑s.size : Int)))) && true) (True ∧ (True ∧ (need ((decide ((↑i : Int) < (↑32 : Int))) && true) (need (((↑i : Int).toNat + 1).ble 32) (rnds Tryd.prog (callOf [(41, (pureS tellG)), (40, (pureS valueG))]) (hints 24) noTab n (lp Tryd.f24 3) [(0, (.string s)), (2, (.pointer (some (Addr.mk 0 0 (some 0))))), (4, (.pointer (some (Addr.mk 1 0 (some 0))))), (5, (.int .i64 (IntKind.i64.wrap ((↑i : Int) + (1 : Int)))))] [(.row (arrC .u8) 32 [zerosL] .own), (.row (arrC .u8) 32 [(x.set (↑i : Int).toNat (IntKind.u8.wrap ((IntKind.u8.wrap ((16 : Int) * (valS (bt s (IntKind.i64.wrap ((7 : Int) + (IntKind.i64.wrap ((2 : Int) * (↑i : Int))))))))) + (valS (bt s (IntKind.i64.wrap ((8 : Int) + (IntKind.i64.wrap ((2 : Int) * (↑i : Int))))))))))] .own)] K))))))) (K (.exit 0) [(0, (.string s)), (2, (.pointer (some (Addr.mk 0 0 (some 0))))), (4, (.pointer (some (Addr.mk 1 0 (some 0)))))] [(.row (arrC .u8) 32 [zerosL] .own), (.row (arrC .u8) 32 [x] .own)])) (K (.exit 0) [(0, (.string s)), (2, (.pointer (some (Addr.mk 0 0 (some 0))))), (4, (.pointer (some (Addr.mk 1 0 (some 0)))))] [(.row (arrC .u8) 32 [zerosL] .own), (.row (arrC .u8) 32 [x] .own)])) (by kernel_rfl) ?_
    simp only [w0, w1, w2, w3, w4, w5, w6, Int.toNat_natCast]
    refine bcase_t (by simp; omega) (bcase_of (fun h => ?_) (fun h => ?_))
    · have hlt : 7 + 2 * i + 1 < s.size := by simp at h; omega
      refine need_of (by simp; omega) (need_of (by simp; omega) ⟨trivial, trivial, need_of (by simp; omega) (need_of (by simp only [Nat.ble_eq, Bool.and_true]; omega) (ih _ (by omega) ?_))⟩)
      simpa only [readFrom, hlt, decide_true, cond_true] using hK
    · have hlt : ¬ (7 + 2 * i + 1 < s.size) := by simp at h; omega
      simpa only [readFrom, hlt, decide_false, cond_false] using hK
theorem rparseLp_ok : CodeOk Tryd.prog Tryd.f24.ntmps (.loop (lp Tryd.f24 3)) rparseLp := by
  refine loop_ok (call := callOf [(41, pureS tellG), (40, pureS valueG)]) (hint := hints 24) (tb := noTab) hm (callOf_cons tell_ok.spec (callOf_cons value_ok.spec callOf_nil)) (by kernel_rfl) (by repeat' first | exact trivial | constructor |  (intro _ h; cases h)) fun fr H K h => ?_
  unfold rparseLp at h
  split at h
  · obtain ⟨⟨rfl, h1, rfl⟩, hK⟩ := h
    unfold readS at hK
    exact ⟨_, rparse_rounds _ h1 _ 32 0 _ (by omega) hK⟩
  · exact h.elim
def tab24 : Tab := ⟨fun | 3 => some rparseLp | _ => none, fun _ => none⟩
/-- A digest's cells. -/
def digL (x : List Int) : List Value := dig fun i => x.getD i 0
theorem decI_digL {x : List Int} (h : x.length = 32) : decI (digL x) = x := by
  match x, h with
  | [a0, a1, a2, a3, a4, a5, a6, a7, a8, a9, a10, a11, a12, a13, a14, a15, a16, a17, a18, a19, a20, a21, a22, a23, a24, a25, a26, a27, a28, a29, a30, a31], _ => rfl
def rparseS (s : ByteArray) : Option (List Int) := bif !((tellS (readS s)).toList == s.toList) then none else some (readS s)
def rparseV (s : ByteArray) : Value := match rparseS s with
  | none => .tuple ⟨[.agg ⟨digL zerosL⟩, .int .i64 10]⟩
  | some x => .tuple ⟨[.agg ⟨digL x⟩, .int .i64 0]⟩
def rparseG : Pure
  | [.string s] => some (s.size < 2 ^ 40, rparseV s)
  | _ => none
theorem rparse_ok : PureOk Tryd.prog 24 rparseG := by
  refine .of_run (call := callOf [(41, pureS tellG), (40, pureS valueG)]) (hint := hints 24) (tb := tab24) hm (callOf_cons tell_ok.spec (callOf_cons value_ok.spec callOf_nil)) Tryd.func24 (by kernel_rfl) rfl (by kernel_rfl) (by repeat' first | exact trivial | constructor | (intro _ h; cases h; exact rparseLp_ok) | (intro _ h; cases h)) fun args c r h => ?_
  unfold rparseG at h
  split at h
  · rename_i s
    cases h
    refine ⟨rfl, fun hs => ⟨?_, 1, fun K hK => ?_⟩⟩
    · unfold rparseV
      split <;> rfl
    refine to (R := ((0 : Int) = 0 ∧ s.size < 2 ^ 40 ∧ ([.row (arrC .u8) 32 [zerosL] .own, .row (arrC .u8) 32 [zerosL] .own] : VH) = [.row (arrC .u8) 32 [zerosL] .own, .row (arrC .u8) 32 [zerosL] .own]) ∧ bytesL (decI (digL (readS s))) ∧
      bcase (!((tellS (decI (digL (readS s)))).toList == s.toList)) (K (.tuple ⟨[.agg ⟨digL zerosL⟩, .int .i64 10]⟩) []) (K (.tuple ⟨[.agg ⟨digL (readS s)⟩, .int .i64 0]⟩) [])) (by kernel_rfl) ?_
    rw [decI_digL (readS_bytes s).2]
    refine ⟨⟨rfl, hs, rfl⟩, (readS_bytes s).1, ?_⟩
    have := hK []
    unfold rparseV rparseS at this
    refine bcase_of (fun h => ?_) (fun h => ?_)
    · rw [h] at this; exact this
    · rw [h] at this; exact this
  · cases h
end Go.Proofs.YtofcjkbgieenlaaDoor.PM

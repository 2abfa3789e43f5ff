/- Contracts of functions of layer 15's reference: heads, names, which entries may be. The model's own contracts as the small machine's, and back. Contracts of library functions at this program: laid by the kit's command out of its shelf, in plain words; those that are wanted here. Contracts of functions of layer 15's program: zeros, fields, data, sums. Contracts of the library's numerals to the base 8. Contracts of functions of layer 15's program: heads. Contracts of functions of layer 15's program: heads. Contracts of functions of layer 15's program: records. Contracts of functions of layer 15's program: which entries may be, and their bytes. Contracts of the builder's copyCheck and WriteString, at this program (the shelf's were not laid: this program's copyCheck names other types). Contract of tar.Write: by the kit's walk. Contracts of functions of layer 15: entries' rows, the reference's bytes of entries. By an AI agent. -/
import Derived.Test.YtbgilaacfbinbaaGreatDoorRowTarWriteB
import Derived.Shelf.Strings.Builder1
import Derived.Shelf.Strings.Builder2
import Derived.Shelf.Strings.Trim
import Derived.Shelf.Small.Utf8
import Derived.Shelf.Small.Strs
import Derived.Shelf.Strings.BuilderF
import Derived.Shelf.Strings.BuilderK
import Derived.Shelf.Strings.Builder2Cap
import Derived.Shelf.Strconv.Atoi
import Derived.Shelf.Strconv.Itoa0
import Derived.Shelf.Strconv.Itoa1
import Derived.Shelf.LaysM
import Derived.Shelf.Strconv.Itoa2
import Derived.Shelf.Strconv.Itoa3
import Derived.Shelf.Strconv.Itoa4
import Derived.Shelf.Strconv.AtoiErrFast
import Derived.Shelf.Strconv.ParseIntEmpty
import Derived.Shelf.Strconv.AtoiFail
import Derived.Shelf.Strconv.Clone
import Derived.Shelf.Strconv.SyntaxError
import Derived.Shelf.LaysC
import Derived.Shelf.Strconv.ToError
import Derived.Shelf.Strconv.AtoiErr
import Derived.Shelf.Strconv.ErrVar
import Derived.Shelf.Strconv.Lower
import Derived.Shelf.Strconv.ParseUint10
import Derived.Shelf.Strconv.ParseUint10Empty
import Derived.Shelf.Strconv.ParseUint10Any
import Derived.Shelf.Strconv.ParseInt10
import Derived.Shelf.Strconv.AtoiLong
import Derived.Shelf.Strconv.AtoiInnerAll
import Derived.Shelf.Strconv.RangeError
import Derived.Shelf.Strconv.ToErrorRange
import Derived.Shelf.Strconv.AtoiAll
import Derived.Shelf.Strconv.ErrVarAll
import Derived.Shelf.Strconv.ParseUintEmpty
import Derived.Shelf.Strconv.ParseUint10b64
import Derived.Shelf.Strconv.ParseUint10b32
import Derived.Shelf.Strconv.ParseUint10b16
import Derived.Shelf.Strconv.ParseUint10b8
import Derived.Shelf.Strconv.ParseUint10At
import Derived.Shelf.Strconv.ParseInt10At64
import Derived.Shelf.Strconv.ParseInt10At32
import Derived.Shelf.Strconv.ParseInt10At16
import Derived.Shelf.Strconv.ParseInt10At8
import Derived.Shelf.Strconv.ParseInt10All
import Derived.Shelf.Strconv.ParseIntPublic10
import Derived.Shelf.Strconv.ErrVarParseInt
import Derived.Shelf.Strings.Search1
import Derived.Shelf.Strings.Search2
import Derived.Shelf.Strings.Cut
import Derived.Shelf.Strings.Shaped
import Derived.Shelf.Strings.Prefix
import Derived.Shelf.Unicode.Decode
import Derived.Shelf.Strings.Runes
import Derived.Shelf.Strings.AsciiSet
import Derived.Shelf.Bits.Mul64
import Derived.Shelf.Strings.Repeat
import Derived.Shelf.Unicode.DecodeSlow
import Derived.Shelf.Unicode.DecodeAny
import Derived.Shelf.Unicode.DecodeLast
import Derived.Shelf.Strings.BuilderCap
import Derived.Test.YtbgilaacfbinbaaGreatDoorProg
import Derived.Deep.WholeRow
import Derived.Deep.MidRow
set_option linter.unusedVariables false
set_option linter.unusedSimpArgs false
namespace Go.Proofs.YtbgilaacfbinbaaGreatDoor.PM
open Go Go.Proofs Go.RowKit
set_option maxRecDepth 100000
set_option linter.unusedVariables false
set_option linter.unusedSimpArgs false

theorem textT_size (s : ByteArray) (n : Nat) : (textT s n).size = n := by
  unfold textT
  rw [ByteArray.size_append, zs_size, ← li_size, li_ofL, List.length_take, li_size]
  omega
theorem octS_size (v n : Nat) (h : 1 ≤ n) : (octS v n).size = n := by
  unfold octS
  rw [ByteArray.size_append, zs_size, ← li_size, li_ofL, octL_len]
  simp
  omega
/-- A head's bytes ahead of its sum, and behind it. -/
def headA (name : ByteArray) (mode size : Nat) : ByteArray := ((((textT name 100 ++ octS mode 8) ++ octS 0 8) ++ octS 0 8) ++ octS size 12) ++ octS 0 12
def headB (kind dest : ByteArray) : ByteArray := ((((kind ++ textT dest 100) ++ ⟨#[117, 115, 116, 97, 114]⟩) ++ zs 1) ++ ⟨#[48, 48]⟩) ++ zs 247
def headS (name dest : ByteArray) (mode size : Nat) (kind : ByteArray) : ByteArray :=
  ((headA name mode size ++ octS (sumS ((headA name mode size ++ zs 8) ++ headB kind dest)).toNat 7) ++ ⟨#[32]⟩) ++ headB kind dest
theorem headA_size (name : ByteArray) (mode size : Nat) : (headA name mode size).size = 148 := by
  unfold headA
  simp only [ByteArray.size_append, textT_size, octS_size _ 8 (by omega), octS_size _ 12 (by omega)]
theorem headB_size (kind dest : ByteArray) : (headB kind dest).size = kind.size + 355 := by
  unfold headB
  simp only [ByteArray.size_append, textT_size, zs_size, show (ByteArray.mk #[117, 115, 116, 97, 114]).size = 5 from rfl, show (ByteArray.mk #[48, 48]).size = 2 from rfl]
def headG : Pure
  | [.string name, .string dest, .int .i64 mode, .int .i64 size, .string kind] => some ((name.size < 2 ^ 40 ∧ dest.size < 2 ^ 40) ∧ 0 ≤ mode ∧ mode < 2 ^ 62 ∧ 0 ≤ size ∧ size < 2 ^ 62 ∧ kind.size = 1, .string (headS name dest mode.toNat size.toNat kind))
  | _ => none
theorem rhead_ok : PureOk Tryz.prog 23 headG := by
  refine .of_run (call := callOf [(44, pureS textG), (45, pureS octG), (25, pureS zerosG), (12, pureS sumG)]) (hint := hints 23) (tb := noTab) hm (callOf_cons rtext_ok.spec (callOf_cons roct_ok.spec (callOf_cons rzeros_ok.spec (callOf_cons rsum_ok.spec callOf_nil)))) Tryz.func23 (by kernel_rfl) rfl (by kernel_rfl) (by repeat' first | exact trivial | constructor |  (intro _ h; cases h)) fun args c r h => ?_
  unfold headG at h
  split at h
  · rename_i name dest mode size kind
    cases h
    refine ⟨rfl, fun hs => ⟨rfl, 1, fun K hK => ?_⟩⟩
    have hK := hK []
    refine toR (R := (((0 : Int) ≤ (100 : Int)) ∧ (((100 : Int) < ((2 : Int) ^ 40)) ∧ (name.size < 1099511627776))) ∧ ((((0 : Int) ≤ mode) ∧ ((mode < ((2 : Int) ^ 62)) ∧ (((1 : Int) ≤ (8 : Int)) ∧ ((8 : Int) < (100 : Int))))) ∧ (need (decide (((textT name 100).size + (octS mode.toNat 8).size) < 9223372036854775808)) ((((0 : Int) ≤ (0 : Int)) ∧ (((0 : Int) < ((2 : Int) ^ 62)) ∧ (((1 : Int) ≤ (8 : Int)) ∧ ((8 : Int) < (100 : Int))))) ∧ (need (decide ((((textT name 100) ++ (octS mode.toNat 8)).size + 8) < 9223372036854775808)) ((((0 : Int) ≤ (0 : Int)) ∧ (((0 : Int) < ((2 : Int) ^ 62)) ∧ (((1 : Int) ≤ (8 : Int)) ∧ ((8 : Int) < (100 : Int))))) ∧ (need (decide (((((textT name 100) ++ (octS mode.toNat 8)) ++ (octS 0 8)).size + 8) < 9223372036854775808)) ((((0 : Int) ≤ size) ∧ ((size < ((2 : Int) ^ 62)) ∧ (((1 : Int) ≤ (12 : Int)) ∧ ((12 : Int) < (100 : Int))))) ∧ (need (decide ((((((textT name 100) ++ (octS mode.toNat 8)) ++ (octS 0 8)) ++ (octS 0 8)).size + (octS size.toNat 12).size) < 9223372036854775808)) ((((0 : Int) ≤ (0 : Int)) ∧ (((0 : Int) < ((2 : Int) ^ 62)) ∧ (((1 : Int) ≤ (12 : Int)) ∧ ((12 : Int) < (100 : Int))))) ∧ (need (decide (((((((textT name 100) ++ (octS mode.toNat 8)) ++ (octS 0 8)) ++ (octS 0 8)) ++ (octS size.toNat 12)).size + 12) < 9223372036854775808)) ((((0 : Int) ≤ (100 : Int)) ∧ (((100 : Int) < ((2 : Int) ^ 40)) ∧ (dest.size < 1099511627776))) ∧ (need (decide ((kind.size + (textT dest 100).size) < 9223372036854775808)) (need (decide (((kind ++ (textT dest 100)).size + 5) < 9223372036854775808)) ((((0 : Int) ≤ (1 : Int)) ∧ ((1 : Int) < ((2 : Int) ^ 40))) ∧ (need (decide ((((kind ++ (textT dest 100)) ++ (ByteArray.mk #[117, 115, 116, 97, 114])).size + 1) < 9223372036854775808)) (need (decide (((((kind ++ (textT dest 100)) ++ (ByteArray.mk #[117, 115, 116, 97, 114])) ++ (zs 1)).size + 2) < 9223372036854775808)) ((((0 : Int) ≤ (247 : Int)) ∧ ((247 : Int) < ((2 : Int) ^ 40))) ∧ (need (decide ((((((kind ++ (textT dest 100)) ++ (ByteArray.mk #[117, 115, 116, 97, 114])) ++ (zs 1)) ++ (ByteArray.mk #[48, 48])).size + 247) < 9223372036854775808)) ((((0 : Int) ≤ (8 : Int)) ∧ ((8 : Int) < ((2 : Int) ^ 40))) ∧ (need (decide ((((((((textT name 100) ++ (octS mode.toNat 8)) ++ (octS 0 8)) ++ (octS 0 8)) ++ (octS size.toNat 12)) ++ (octS 0 12)).size + 8) < 9223372036854775808)) (need (decide (((((((((textT name 100) ++ (octS mode.toNat 8)) ++ (octS 0 8)) ++ (octS 0 8)) ++ (octS size.toNat 12)) ++ (octS 0 12)) ++ (zs 8)).size + (((((kind ++ (textT dest 100)) ++ (ByteArray.mk #[117, 115, 116, 97, 114])) ++ (zs 1)) ++ (ByteArray.mk #[48, 48])) ++ (zs 247)).size) < 9223372036854775808)) ((512 ≤ ((((((((textT name 100) ++ (octS mode.toNat 8)) ++ (octS 0 8)) ++ (octS 0 8)) ++ (octS size.toNat 12)) ++ (octS 0 12)) ++ (zs 8)) ++ (((((kind ++ (textT dest 100)) ++ (ByteArray.mk #[117, 115, 116, 97, 114])) ++ (zs 1)) ++ (ByteArray.mk #[48, 48])) ++ (zs 247))).size) ∧ ((((0 : Int) ≤ (sumS ((((((((textT name 100) ++ (octS mode.toNat 8)) ++ (octS 0 8)) ++ (octS 0 8)) ++ (octS size.toNat 12)) ++ (octS 0 12)) ++ (zs 8)) ++ (((((kind ++ (textT dest 100)) ++ (ByteArray.mk #[117, 115, 116, 97, 114])) ++ (zs 1)) ++ (ByteArray.mk #[48, 48])) ++ (zs 247))))) ∧ (((sumS ((((((((textT name 100) ++ (octS mode.toNat 8)) ++ (octS 0 8)) ++ (octS 0 8)) ++ (octS size.toNat 12)) ++ (octS 0 12)) ++ (zs 8)) ++ (((((kind ++ (textT dest 100)) ++ (ByteArray.mk #[117, 115, 116, 97, 114])) ++ (zs 1)) ++ (ByteArray.mk #[48, 48])) ++ (zs 247)))) < ((2 : Int) ^ 62)) ∧ (((1 : Int) ≤ (7 : Int)) ∧ ((7 : Int) < (100 : Int))))) ∧ (need (decide ((((((((textT name 100) ++ (octS mode.toNat 8)) ++ (octS 0 8)) ++ (octS 0 8)) ++ (octS size.toNat 12)) ++ (octS 0 12)).size + (octS (sumS ((((((((textT name 100) ++ (octS mode.toNat 8)) ++ (octS 0 8)) ++ (octS 0 8)) ++ (octS size.toNat 12)) ++ (octS 0 12)) ++ (zs 8)) ++ (((((kind ++ (textT dest 100)) ++ (ByteArray.mk #[117, 115, 116, 97, 114])) ++ (zs 1)) ++ (ByteArray.mk #[48, 48])) ++ (zs 247)))).toNat 7).size) < 9223372036854775808)) (need (decide (((((((((textT name 100) ++ (octS mode.toNat 8)) ++ (octS 0 8)) ++ (octS 0 8)) ++ (octS size.toNat 12)) ++ (octS 0 12)) ++ (octS (sumS ((((((((textT name 100) ++ (octS mode.toNat 8)) ++ (octS 0 8)) ++ (octS 0 8)) ++ (octS size.toNat 12)) ++ (octS 0 12)) ++ (zs 8)) ++ (((((kind ++ (textT dest 100)) ++ (ByteArray.mk #[117, 115, 116, 97, 114])) ++ (zs 1)) ++ (ByteArray.mk #[48, 48])) ++ (zs 247)))).toNat 7)).size + 1) < 9223372036854775808)) (need (decide ((((((((((textT name 100) ++ (octS mode.toNat 8)) ++ (octS 0 8)) ++ (octS 0 8)) ++ (octS size.toNat 12)) ++ (octS 0 12)) ++ (octS (sumS ((((((((textT name 100) ++ (octS mode.toNat 8)) ++ (octS 0 8)) ++ (octS 0 8)) ++ (octS size.toNat 12)) ++ (octS 0 12)) ++ (zs 8)) ++ (((((kind ++ (textT dest 100)) ++ (ByteArray.mk #[117, 115, 116, 97, 114])) ++ (zs 1)) ++ (ByteArray.mk #[48, 48])) ++ (zs 247)))).toNat 7)) ++ (ByteArray.mk #[32])).size + (((((kind ++ (textT dest 100)) ++ (ByteArray.mk #[117, 115, 116, 97, 114])) ++ (zs 1)) ++ (ByteArray.mk #[48, 48])) ++ (zs 247)).size) < 9223372036854775808)) (K (.string (((((((((textT name 100) ++ (octS mode.toNat 8)) ++ (octS 0 8)) ++ (octS 0 8)) ++ (octS size.toNat 12)) ++ (octS 0 12)) ++ (octS (sumS ((((((((textT name 100) ++ (octS mode.toNat 8)) ++ (octS 0 8)) ++ (octS 0 8)) ++ (octS size.toNat 12)) ++ (octS 0 12)) ++ (zs 8)) ++ (((((kind ++ (textT dest 100)) ++ (ByteArray.mk #[117, 115, 116, 97, 114])) ++ (zs 1)) ++ (ByteArray.mk #[48, 48])) ++ (zs 247)))).toNat 7)) ++ (ByteArray.mk #[32])) ++ (((((kind ++ (textT dest 100)) ++ (ByteArray.mk #[117, 115, 116, 97, 114])) ++ (zs 1)) ++ (ByteArray.mk #[48, 48])) ++ (zs 247)))) [])))))))))))))))))))))))))))) (by kernel_rfl) ?_
    obtain ⟨⟨n1, n2⟩, m1, m2, z1, z2, k1⟩ := hs
    have o8 : ∀ v, (octS v 8).size = 8 := fun v => octS_size v 8 (by omega)
    have o12 : ∀ v, (octS v 12).size = 12 := fun v => octS_size v 12 (by omega)
    have o7 : ∀ v, (octS v 7).size = 7 := fun v => octS_size v 7 (by omega)
    have l5 : (ByteArray.mk #[117, 115, 116, 97, 114]).size = 5 := rfl
    have l2 : (ByteArray.mk #[48, 48]).size = 2 := rfl
    have l1 : (ByteArray.mk #[32]).size = 1 := rfl
    have hsum : ∀ s, 0 ≤ sumS s ∧ sumS s ≤ 131072 := fun s => by
      have := sumFrom_le s 512 0 0
      unfold sumS
      omega
    have hsumI : ∀ s, (0 : Int) ≤ sumS s ∧ sumS s < (2 : Int) ^ 62 ∧ (1 : Int) ≤ 7 ∧ (7 : Int) < 100 := fun s => by
      have := hsum s
      omega
    repeat' first
      | with_reducible exact hK
      | with_reducible refine And.intro (by first | omega | (simp only [ByteArray.size_append, textT_size, zs_size, o8, o12, o7, l5, l2, l1, k1]; omega) | exact hsumI _) ?_
      | with_reducible refine need_of (decide_eq_true (by simp only [ByteArray.size_append, textT_size, zs_size, o8, o12, o7, l5, l2, l1, k1]; omega)) ?_
    exact hK
  · cases h
/-- What may be a name: 0, or what is wrong. -/
def noZero (s : ByteArray) : Nat → Nat → Bool → Bool
  | 0, _, b => b
  | d + 1, i, b => noZero s d (i + 1) (b && (bt s i != 0))
def namedLp : LSpec
  | [(0, .string s), (3, .bool b), (4, .int .i64 i)], [], K => (i = 0 ∧ s.size < 2 ^ 62) ∧ K (.exit 0) [(3, .bool (noZero s s.size 0 b))] []
  | _, _, _ => False
theorem named_rounds (s : ByteArray) (hs : s.size < 2 ^ 62) (K : Kont) : ∀ (d i : Nat) (b : Bool), i + d = s.size →
    K (.exit 0) [(3, .bool (noZero s d i b))] [] →
    rnds Tryz.prog (callOf []) (hints 36) noTab (d + 1) (lp Tryz.f36 5) [(0, .string s), (3, .bool b), (4, .int .i64 (i : Int))] [] K
  | 0, i, b, hi, hK => by
    refine toR (R := bcase (decide ((↑i : Int) < (↑s.size : Int))) (bcase b (need (decide ((↑i : Int) < (↑s.size : Int))) (rnds Tryz.prog (callOf []) (hints 36) noTab (nat_lit 0) (lp Tryz.f36 5) [(0, (.string s)), (3, (.bool ((bt s (↑i : Int)) != (0 : Int)))), (4, (.int .i64 (IntKind.i64.wrap ((↑i : Int) + (1 : Int)))))] [] K)) (rnds Tryz.prog (callOf []) (hints 36) noTab (nat_lit 0) (lp Tryz.f36 5) [(0, (.string s)), (3, (.bool false)), (4, (.int .i64 (IntKind.i64.wrap ((↑i : Int) + (1 : Int)))))] [] K)) (K (.exit 0) [(3, (.bool b))] [])) (by kernel_rfl) ?_
    exact bcase_f (decide_eq_false (by omega)) hK
  | d + 1, i, b, hi, hK => by
    have w0 : IntKind.i64.wrap ((i : Int) + 1) = ((i + 1 : Nat) : Int) := wrap_id (by omega) (by omega)
    have ih := fun b hK => named_rounds s hs K d (i + 1) b (by omega) hK
    unfold noZero at hK
    obtain ⟨kk, hkk⟩ : ∃ kk, kk = d + 1 := ⟨_, rfl⟩; rw [← hkk] at ih ⊢
    refine toR (R := bcase (decide ((↑i : Int) < (↑s.size : Int))) (bcase b (need (decide ((↑i : Int) < (↑s.size : Int))) (rnds Tryz.prog (callOf []) (hints 36) noTab kk (lp Tryz.f36 5) [(0, (.string s)), (3, (.bool ((bt s (↑i : Int)) != (0 : Int)))), (4, (.int .i64 (IntKind.i64.wrap ((↑i : Int) + (1 : Int)))))] [] K)) (rnds Tryz.prog (callOf []) (hints 36) noTab kk (lp Tryz.f36 5) [(0, (.string s)), (3, (.bool false)), (4, (.int .i64 (IntKind.i64.wrap ((↑i : Int) + (1 : Int)))))] [] K)) (K (.exit 0) [(3, (.bool b))] [])) (by kernel_rfl) ?_
    simp only [w0]
    refine bcase_t (decide_eq_true (by omega)) (bcase_of (fun h => ?_) (fun h => ?_))
    · rw [h, Bool.true_and] at hK
      exact need_of (decide_eq_true (by omega)) (ih _ hK)
    · rw [h, Bool.false_and] at hK
      exact ih _ hK
theorem namedLp_ok : CodeOk Tryz.prog Tryz.f36.ntmps (.loop (lp Tryz.f36 5)) namedLp := by
  refine loop_ok (call := callOf []) (hint := hints 36) (tb := noTab) hm (callOf_nil) (by kernel_rfl) (by repeat' first | exact trivial | constructor |  (intro _ h; cases h)) fun fr H K h => ?_
  unfold namedLp at h
  split at h
  · obtain ⟨⟨rfl, h1⟩, hK⟩ := h
    exact ⟨_, named_rounds _ h1 K _ 0 _ (by omega) hK⟩
  · exact h.elim
def tab36 : Tab := ⟨fun | 5 => some namedLp | _ => none, fun _ => none⟩
def namedS (s : ByteArray) : Int := bif decide ((s.size : Int) > 200) then 3 else bif noZero s s.size 0 (!(isS s [])) then 0 else 10
def namedG : Pure
  | [.string s] => some (s.size < 2 ^ 62, .int .i64 (namedS s))
  | _ => none
theorem rnamed_ok : PureOk Tryz.prog 36 namedG := by
  refine .of_run (call := callOf []) (hint := hints 36) (tb := tab36) hm (callOf_nil) Tryz.func36 (by kernel_rfl) rfl (by kernel_rfl) (by repeat' first | exact trivial | constructor | (intro _ h; cases h; exact namedLp_ok) | (intro _ h; cases h)) fun args c r h => ?_
  unfold namedG at h
  split at h
  · rename_i s
    cases h
    refine ⟨rfl, fun hs => ⟨rfl, 1, fun K hK => ?_⟩⟩
    have hK := hK []
    refine toR (R := bcase (decide ((↑s.size : Int) > (200 : Int))) (K (.int .i64 (3 : Int)) []) ((((0 : Int) = (0 : Int)) ∧ (s.size < 4611686018427387904)) ∧ (bcase (!(noZero s s.size 0 !(s.toList == (ByteArray.mk #[]).toList))) (K (.int .i64 (10 : Int)) []) (K (.int .i64 (0 : Int)) [])))) (by kernel_rfl) ?_
    unfold namedS isS at hK
    refine bcase_of (fun h => by rw [h] at hK; exact hK) (fun h => ⟨⟨rfl, hs⟩, bcase_not (bcase_of (fun g => ?_) (fun g => ?_))⟩)
    · rw [h] at hK
      have g : noZero s s.size 0 (!(s.toList == (ByteArray.mk ([] : List UInt8).toArray).toList)) = true := g
      rw [g] at hK
      exact hK
    · rw [h] at hK
      have g : noZero s s.size 0 (!(s.toList == (ByteArray.mk ([] : List UInt8).toArray).toList)) = false := g
      rw [g] at hK
      exact hK
  · cases h
/-- May an entry be? -/
def mayR (k : Int) (n d : ByteArray) (m : Int) (b : ByteArray) : Bool :=
  bif decide (k < 1) || (decide (k > 4) || (namedS n != 0 || (decide (m < 0) || (decide (m > 4095) || (k != 1 && !(isS b [])))))) then false else
  bif decide (k > 2) then namedS d == 0 else isS d []
def mayG : Pure
  | [.agg ⟨[.int .i64 k, .string n, .string d, .int .i64 m, .string b]⟩] => some (n.size < 2 ^ 62 ∧ d.size < 2 ^ 62, .bool (mayR k n d m b))
  | _ => none
theorem rmay_ok : PureOk Tryz.prog 21 mayG := by
  refine .of_run (call := callOf [(36, pureS namedG)]) (hint := hints 21) (tb := noTab) hm (callOf_cons rnamed_ok.spec callOf_nil) Tryz.func21 (by kernel_rfl) rfl (by kernel_rfl) (by repeat' first | exact trivial | constructor |  (intro _ h; cases h)) fun args c r h => ?_
  unfold mayG at h
  split at h
  · rename_i k n d m b
    cases h
    refine ⟨rfl, fun hs => ⟨rfl, 1, fun K hK => ?_⟩⟩
    have hK := hK []
    refine toR (R := bcase (decide (k < (1 : Int))) (K (.bool false) []) (bcase (decide (k > (4 : Int))) (K (.bool false) []) ((n.size < 4611686018427387904) ∧ (bcase ((namedS n) != (0 : Int)) (K (.bool false) []) (bcase (decide (m < (0 : Int))) (K (.bool false) []) (bcase (decide (m > (4095 : Int))) (K (.bool false) []) (bcase (k != (1 : Int)) (bcase (!(b.toList == (ByteArray.mk #[]).toList)) (K (.bool false) []) (bcase (decide (k > (2 : Int))) ((d.size < 4611686018427387904) ∧ (K (.bool ((namedS d) == (0 : Int))) [])) (K (.bool (d.toList == (ByteArray.mk #[]).toList)) []))) (bcase (decide (k > (2 : Int))) ((d.size < 4611686018427387904) ∧ (K (.bool ((namedS d) == (0 : Int))) [])) (K (.bool (d.toList == (ByteArray.mk #[]).toList)) []))))))))) (by kernel_rfl) ?_
    simp only [mayR, isS] at hK
    obtain ⟨h1, h2⟩ := hs
    repeat' first | with_reducible exact trivial | with_reducible refine need_of (by first | first | with_reducible assumption | (simp only [List.length_cons, List.length_nil, Nat.zero_add, Nat.zero_lt_succ, decide_true, Bool.and_true, Bool.and_self]; done) | with_reducible exact pos_of (by assumption) | with_reducible exact pos_of' (by assumption) | omega | (simp only [ByteArray.size_append, sz1, decide_eq_true_eq, *]; omega) | decide | (simp only [Bool.and_true, Bool.and_eq_true, decide_eq_true_eq, ByteArray.size_extract, ByteArray.size_append, sz1, Int.toNat_natCast, List.getD_eq_getElem?_getD, beq_iff_eq, decide_eq_false_iff_not] at *; omega) | ((repeat' constructor) <;> first | rfl | first | with_reducible assumption | (simp only [List.length_cons, List.length_nil, Nat.zero_add, Nat.zero_lt_succ, decide_true, Bool.and_true, Bool.and_self]; done) | with_reducible exact pos_of (by assumption) | with_reducible exact pos_of' (by assumption) | omega | (simp only [ByteArray.size_append, sz1, decide_eq_true_eq, *]; omega) | decide | (simp only [Bool.and_true, Bool.and_eq_true, decide_eq_true_eq, ByteArray.size_extract, ByteArray.size_append, sz1, Int.toNat_natCast, List.getD_eq_getElem?_getD, beq_iff_eq, decide_eq_false_iff_not] at *; omega))) ?_ | with_reducible refine And.intro (by first | first | with_reducible assumption | (simp only [List.length_cons, List.length_nil, Nat.zero_add, Nat.zero_lt_succ, decide_true, Bool.and_true, Bool.and_self]; done) | with_reducible exact pos_of (by assumption) | with_reducible exact pos_of' (by assumption) | omega | (simp only [ByteArray.size_append, sz1, decide_eq_true_eq, *]; omega) | decide | (simp only [Bool.and_true, Bool.and_eq_true, decide_eq_true_eq, ByteArray.size_extract, ByteArray.size_append, sz1, Int.toNat_natCast, List.getD_eq_getElem?_getD, beq_iff_eq, decide_eq_false_iff_not] at *; omega) | ((repeat' constructor) <;> first | rfl | first | with_reducible assumption | (simp only [List.length_cons, List.length_nil, Nat.zero_add, Nat.zero_lt_succ, decide_true, Bool.and_true, Bool.and_self]; done) | with_reducible exact pos_of (by assumption) | with_reducible exact pos_of' (by assumption) | omega | (simp only [ByteArray.size_append, sz1, decide_eq_true_eq, *]; omega) | decide | (simp only [Bool.and_true, Bool.and_eq_true, decide_eq_true_eq, ByteArray.size_extract, ByteArray.size_append, sz1, Int.toNat_natCast, List.getD_eq_getElem?_getD, beq_iff_eq, decide_eq_false_iff_not] at *; omega))) ?_ | with_reducible refine bcase_not ?_ | with_reducible refine bcase_t rfl ?_ | with_reducible refine bcase_f rfl ?_ | with_reducible refine bcase_t (by assumption) ?_ | with_reducible refine bcase_f (by assumption) ?_ | (with_reducible refine bcase_of (fun hx => ?_) (fun hx => ?_) <;> try simp only [hx, bcase_tt, bcase_ff, Int.toNat_natCast, Bool.not_true, Bool.not_false, cond_true, cond_false, Bool.and_true, Bool.and_false, Bool.true_and, Bool.false_and, Bool.or_true, Bool.or_false, Bool.true_or, Bool.false_or] at hK)
    all_goals exact hK
  · cases h
end Go.Proofs.YtbgilaacfbinbaaGreatDoor.PM

namespace Go.Proofs.YtbgilaacfbinbaaGreatDoor.PM
open Go Go.Proofs Go.RowKit
set_option maxRecDepth 100000
set_option linter.unusedVariables false

theorem PureOk.of_shelf {P : Program} {f : FuncId} {fn : Func} {b : Code} {g : Pure} (hf : P.funcs[f]? = some fn) (hn : (fn.name == "runtime.NumGoroutine") = false) (hb : fn.body = some b)
    (h : ∀ args c r, g args = some (c, r) → closedL args = true ∧ (c → closedV r = true ∧ ∀ w, Wd w → Calls P f ⟨args⟩ w fun e w' => e = .returned r ∧ Below w.heap.size w w')) : PureOk P f g where
  enter := ⟨fn, b, hf, hn, hb⟩
  args args c r hg := (h args c r hg).1
  meets args c r hg hcc := by
    obtain ⟨h0, h1⟩ := h args c r hg
    obtain ⟨h2, h3⟩ := h1 hcc
    exact ⟨h2, .of_calls h0 h2 h3⟩
theorem closedL_self : ∀ {l : List Value}, closedL l = true → VRs [] l l
  | [], _ => .nil
  | v :: l, h => by
    simp only [closedL, Bool.and_eq_true] at h
    refine .cons ?_ (closedL_self h.2)
    have one : ∀ u, closed1 u = true → VR [] u u := fun u hu => by
      unfold closed1 at hu
      split at hu
      · exact .agg (VRs.plain hu)
      · exact .func .nil .nil
      · exact VR.plain hu
    have all : ∀ l : List Value, closedL1 l = true → VRs [] l l := by
      intro l
      induction l with
      | nil => intro _; exact .nil
      | cons u l ih =>
        intro hl
        simp only [closedL1, Bool.and_eq_true] at hl
        exact .cons (one u hl.1) (ih hl.2)
    have hv := h.1
    unfold closedV at hv
    split at hv
    · exact .tuple (all _ hv)
    · exact one _ hv
/-- A proved function, as the kit has it. -/
theorem PureOk.calls {P : Program} {f : FuncId} {g : Pure} (h : PureOk P f g) {args : List Value} {c : Prop} {r : Value} (hg : g args = some (c, r)) (hc : c) (w : World) (hw : Wd w) :
    Calls P f ⟨args⟩ w fun e w' => e = .returned r ∧ Below w.heap.size w w' := by
  obtain ⟨h1, h2⟩ := h.meets args c r hg hc
  have ha := h.args args c r hg
  have hv : VRs [] args args := closedL_self ha
  refine (h2 [] w args hw (HR.empty w) hv).mono ?_
  rintro e w' ⟨r', r'', μ', H', rfl, k1, _, _, _, _, _, k7, rfl⟩
  obtain ⟨rfl, _⟩ := closedV_same (ν := μ') h1 k1
  exact ⟨rfl, k7⟩
end Go.Proofs.YtbgilaacfbinbaaGreatDoor.PM

namespace Go.Proofs
open Go.Shelf
def Tryz.lays169_ren : Go.Shelf.Ren := ⟨fun | 169 => 20 | n => n, fun | 70 => 43 | 9 => 9 | 0 => 0 | 72 => 45 | 37 => 33 | 127 => 81 | 3 => 3 | 5 => 5 | n => n, fun | n => n⟩
theorem Tryz.lays169 : Go.Proofs.Lays.n169 Tryz.prog Tryz.lays169_ren := {
  mixed := by kernel_rfl
  f169 := Tryz.func20.trans (congrArg some (by kernel_rfl))
  t0 := Tryz.underlying0
  a0 := Tryz.isAgg0
  z0 := Tryz.sizeOf0
  v0 := Tryz.zeroValue0
  t3 := Tryz.underlying3
  a3 := Tryz.isAgg3
  z3 := Tryz.sizeOf3
  v3 := Tryz.zeroValue3
  t9 := Tryz.underlying9
  a9 := Tryz.isAgg9
  z9 := Tryz.sizeOf9
  v9 := Tryz.zeroValue9
  t37 := Tryz.underlying33
  a37 := Tryz.isAgg33
  z37 := Tryz.sizeOf33
  v37 := Tryz.zeroValue33
  t70 := Tryz.underlying43
  a70 := Tryz.isAgg43
  z70 := Tryz.sizeOf43
  v70 := Tryz.zeroValue43
  t72 := Tryz.underlying45
  a72 := Tryz.isAgg45
  z72 := Tryz.sizeOf45
  v72 := Tryz.zeroValue45
  t127 := Tryz.underlying81
  a127 := Tryz.isAgg81
  z127 := Tryz.sizeOf81
  v127 := Tryz.zeroValue81 }
theorem Tryz.Builder_Extra_169 : Builder.Extra Tryz.prog Tryz.lays169_ren := {
  sizeBuilder := by kernel_rfl
  liesBuilder := by kernel_rfl
  t5 := Tryz.underlying5
  a5 := Tryz.isAgg5
  z5 := Tryz.sizeOf5
  v5 := Tryz.zeroValue5
  infoByte := by kernel_rfl
  cellsByte := by kernel_rfl
  sizeByte := by kernel_rfl
  neB5 := by decide }
def Tryz.lays137_ren : Go.Shelf.Ren := ⟨fun | 137 => 54 | 217 => 76 | 266 => 91 | n => n, fun | 9 => 9 | 5 => 5 | 3 => 3 | n => n, fun | n => n⟩
theorem Tryz.lays137 : Go.Proofs.Lays.n137 Tryz.prog Tryz.lays137_ren := {
  mixed := by kernel_rfl
  f137 := Tryz.func54.trans (congrArg some (by kernel_rfl))
  f217 := Tryz.func76.trans (congrArg some (by kernel_rfl))
  f266 := Tryz.func91.trans (congrArg some (by kernel_rfl))
  t3 := Tryz.underlying3
  a3 := Tryz.isAgg3
  z3 := Tryz.sizeOf3
  v3 := Tryz.zeroValue3
  t5 := Tryz.underlying5
  a5 := Tryz.isAgg5
  z5 := Tryz.sizeOf5
  v5 := Tryz.zeroValue5
  t9 := Tryz.underlying9
  a9 := Tryz.isAgg9
  z9 := Tryz.sizeOf9
  v9 := Tryz.zeroValue9 }
open Go.RowKit in
/-- strings.IndexByte: "IndexByte returns the index of the first instance of c in s, or -1 if c is not present in s.": IT RETURNS 'Lib.indexByte s c'; the world is as it was. (LAID: no walk: one application.) -/
theorem Tryz.strings_IndexByte (s : ByteArray) (c : Int) (w : World) :
    Calls Tryz.prog 54 #[.string s, .int .u8 c] w fun e w' => e = .returned (.int .i64 (Lib.indexByte s.data.toList c.toNat.toUInt8)) ∧ w' = w := Any.strings_IndexByte Tryz.lays137 s c w
open Go.RowKit in
/-- (*strings.Builder).String: "String returns the accumulated string.": WHATEVER THE BUILDER HOLDS; THE FORM '_f': OF A BUILDER THAT MAY HAVE BEEN READ BEFORE; AND IT IS A BUILDER STILL, holding the same bytes: it can be written on. (LAID: no walk: one application.) -/
theorem Tryz.Builder_String_any_f (B b : Nat) (l : List UInt8) (w : World) (h : Lib.IsBuilderF 45 5 B b (Lib.byteCells l) w) (hBw : B ≤ w.heap.size) :
    Calls Tryz.prog 20 #[.pointer (some ⟨b, 0, none⟩)] w fun e w' => e = .returned (.string ⟨l.toArray⟩) ∧ (Lib.IsBuilderF 45 5 B b (Lib.byteCells l) w' ∧ Below B w w') := Any.Builder_String_any_f Tryz.lays169 Tryz.Builder_Extra_169 B b l w h hBw
open Go.RowKit in
/-- (*strings.Builder).String: "String returns the accumulated string.": WHATEVER THE BUILDER HOLDS; THE FORM '_k': OVER 'Lib.IsBuilderF' (a builder that 'String()' may have read), AND WITH THE FRAME THAT REACHES ABOVE THE BUILDER: 'Lib.OthersKept': every block that is not b and is no row of uint8's stands as it stood: the iterator of a range among them. (LAID: no walk: one application.) -/
theorem Tryz.Builder_String_any_k (B b : Nat) (l : List UInt8) (w : World) (h : Lib.IsBuilderF 45 5 B b (Lib.byteCells l) w) (hBw : B ≤ w.heap.size) :
    Calls Tryz.prog 20 #[.pointer (some ⟨b, 0, none⟩)] w fun e w' => e = .returned (.string ⟨l.toArray⟩) ∧ (Lib.IsBuilderF 45 5 B b (Lib.byteCells l) w' ∧ Below B w w' ∧ Lib.OthersKept 5 (some b) w w') := Any.Builder_String_any_k Tryz.lays169 Tryz.Builder_Extra_169 B b l w h hBw
def Tryz.laysM171_ren : Go.Shelf.Ren := ⟨fun | 171 => 56 | 243 => 77 | 246 => 92 | 283 => 103 | 284 => 104 | 285 => 105 | 286 => 106 | 129 => 116 | 317 => 115 | 318 => 117 | 319 => 118 | 320 => 119 | 337 => 121 | 338 => 122 | n => n, fun | 3 => 3 | 9 => 9 | 2 => 2 | 4 => 4 | 171 => 133 | 0 => 0 | 53 => 116 | 37 => 33 | 5 => 5 | 173 => 136 | 212 => 148 | 51 => 113 | 20 => 20 | 213 => 149 | 46 => 35 | 232 => 157 | 233 => 158 | n => n, fun | 17 => 6 | 18 => 7 | 19 => 8 | n => n⟩
theorem Tryz.laysM171 : Go.Proofs.LaysM.n171 Tryz.prog Tryz.laysM171_ren := {
  mixed := by kernel_rfl
  f129 := Tryz.func116.trans (congrArg some (by kernel_rfl))
  f171 := Tryz.func56.trans (congrArg some (by kernel_rfl))
  f243 := Tryz.func77.trans (congrArg some (by kernel_rfl))
  f246 := Tryz.func92.trans (congrArg some (by kernel_rfl))
  f283 := Tryz.func103.trans (congrArg some (by kernel_rfl))
  f284 := Tryz.func104.trans (congrArg some (by kernel_rfl))
  f285 := Tryz.func105.trans (congrArg some (by kernel_rfl))
  f286 := Tryz.func106.trans (congrArg some (by kernel_rfl))
  f317 := Tryz.func115.trans (congrArg some (by kernel_rfl))
  f318 := Tryz.func117.trans (congrArg some (by kernel_rfl))
  f319 := Tryz.func118.trans (congrArg some (by kernel_rfl))
  f320 := Tryz.func119.trans (congrArg some (by kernel_rfl))
  f337 := Tryz.func121.trans (congrArg some (by kernel_rfl))
  f338 := Tryz.func122.trans (congrArg some (by kernel_rfl))
  t0 := Tryz.underlying0
  a0 := Tryz.isAgg0
  z0 := Tryz.sizeOf0
  v0 := Tryz.zeroValue0
  t2 := Tryz.underlying2
  a2 := Tryz.isAgg2
  z2 := Tryz.sizeOf2
  v2 := Tryz.zeroValue2
  t3 := Tryz.underlying3
  a3 := Tryz.isAgg3
  z3 := Tryz.sizeOf3
  v3 := Tryz.zeroValue3
  t4 := Tryz.underlying4
  a4 := Tryz.isAgg4
  z4 := Tryz.sizeOf4
  v4 := Tryz.zeroValue4
  t5 := Tryz.underlying5
  a5 := Tryz.isAgg5
  z5 := Tryz.sizeOf5
  v5 := Tryz.zeroValue5
  t9 := Tryz.underlying9
  a9 := Tryz.isAgg9
  z9 := Tryz.sizeOf9
  v9 := Tryz.zeroValue9
  t20 := Tryz.underlying20
  a20 := Tryz.isAgg20
  z20 := Tryz.sizeOf20
  v20 := Tryz.zeroValue20
  t37 := Tryz.underlying33
  a37 := Tryz.isAgg33
  z37 := Tryz.sizeOf33
  v37 := Tryz.zeroValue33
  t46 := Tryz.underlying35
  a46 := Tryz.isAgg35
  z46 := Tryz.sizeOf35
  v46 := Tryz.zeroValue35
  t51 := Tryz.underlying113
  a51 := Tryz.isAgg113
  z51 := Tryz.sizeOf113
  v51 := Tryz.zeroValue113
  t53 := Tryz.underlying116
  a53 := Tryz.isAgg116
  z53 := Tryz.sizeOf116
  v53 := Tryz.zeroValue116
  t171 := Tryz.underlying133
  a171 := Tryz.isAgg133
  z171 := Tryz.sizeOf133
  v171 := Tryz.zeroValue133
  t173 := Tryz.underlying136
  a173 := Tryz.isAgg136
  z173 := Tryz.sizeOf136
  v173 := Tryz.zeroValue136
  t212 := Tryz.underlying148
  a212 := Tryz.isAgg148
  z212 := Tryz.sizeOf148
  v212 := Tryz.zeroValue148
  t213 := Tryz.underlying149
  a213 := Tryz.isAgg149
  z213 := Tryz.sizeOf149
  t232 := Tryz.underlying157
  a232 := Tryz.isAgg157
  z232 := Tryz.sizeOf157
  v232 := Tryz.zeroValue157
  t233 := Tryz.underlying158
  a233 := Tryz.isAgg158
  z233 := Tryz.sizeOf158
  v233 := Tryz.zeroValue158
  g17 := by kernel_rfl
  g18 := by kernel_rfl
  g19 := by kernel_rfl
  i0 := by kernel_rfl
  i2 := by kernel_rfl
  i3 := by kernel_rfl
  i4 := by kernel_rfl
  i5 := by kernel_rfl
  i9 := by kernel_rfl
  i20 := by kernel_rfl
  i37 := by kernel_rfl
  i46 := by kernel_rfl
  i51 := by kernel_rfl
  i53 := by kernel_rfl
  i171 := by kernel_rfl
  i173 := by kernel_rfl
  i212 := by kernel_rfl
  i232 := by kernel_rfl
  i233 := by kernel_rfl
  m17 := by kernel_rfl
  m18 := by kernel_rfl
  m19 := by kernel_rfl }
open Go.RowKit Go.Sort Go.Lib in
/-- strconv.Itoa: "Itoa is equivalent to FormatInt(int64(i), 10).": i's DECIMAL NUMERAL ('Lib.itoa': a '-' where i is negative, then the digits), FOR EVERY int. The world behind the call: the world before it, new blocks behind the heap (the library's 'var a [24]byte'), draws. (LAID: no walk: one application.) -/
theorem Tryz.strconv_Itoa (n : Int) (h0 : -9223372036854775808 ≤ n) (h1 : n ≤ 9223372036854775807) (w : World) (htab : Lib.TabIs Tryz.prog w "internal/strconv.uint64pow10" .u64 Lib.pow10Tab) :
    Calls Tryz.prog 56 #[.int .i64 n] w fun e w' => e = .returned (.string ⟨(Lib.itoa n).toArray⟩) ∧ ∃ k os, w' = grow (w.drewN k) os := Any.strconv_Itoa Tryz.laysM171 n h0 h1 w htab
def Tryz.lays171_ren : Go.Shelf.Ren := ⟨fun | 171 => 56 | 243 => 77 | 246 => 92 | 283 => 103 | 284 => 104 | 285 => 105 | 286 => 106 | 129 => 116 | 317 => 115 | 318 => 117 | 319 => 118 | 320 => 119 | 337 => 121 | 338 => 122 | n => n, fun | 3 => 3 | 9 => 9 | 2 => 2 | 4 => 4 | 171 => 133 | 0 => 0 | 53 => 116 | 37 => 33 | 5 => 5 | 173 => 136 | 212 => 148 | 51 => 113 | 20 => 20 | 213 => 149 | 46 => 35 | 232 => 157 | 233 => 158 | n => n, fun | 17 => 6 | 18 => 7 | 19 => 8 | n => n⟩
theorem Tryz.lays171 : Go.Proofs.Lays.n171 Tryz.prog Tryz.lays171_ren := {
  mixed := by kernel_rfl
  f129 := Tryz.func116.trans (congrArg some (by kernel_rfl))
  f171 := Tryz.func56.trans (congrArg some (by kernel_rfl))
  f243 := Tryz.func77.trans (congrArg some (by kernel_rfl))
  f246 := Tryz.func92.trans (congrArg some (by kernel_rfl))
  f283 := Tryz.func103.trans (congrArg some (by kernel_rfl))
  f284 := Tryz.func104.trans (congrArg some (by kernel_rfl))
  f285 := Tryz.func105.trans (congrArg some (by kernel_rfl))
  f286 := Tryz.func106.trans (congrArg some (by kernel_rfl))
  f317 := Tryz.func115.trans (congrArg some (by kernel_rfl))
  f318 := Tryz.func117.trans (congrArg some (by kernel_rfl))
  f319 := Tryz.func118.trans (congrArg some (by kernel_rfl))
  f320 := Tryz.func119.trans (congrArg some (by kernel_rfl))
  f337 := Tryz.func121.trans (congrArg some (by kernel_rfl))
  f338 := Tryz.func122.trans (congrArg some (by kernel_rfl))
  t0 := Tryz.underlying0
  a0 := Tryz.isAgg0
  z0 := Tryz.sizeOf0
  v0 := Tryz.zeroValue0
  t2 := Tryz.underlying2
  a2 := Tryz.isAgg2
  z2 := Tryz.sizeOf2
  v2 := Tryz.zeroValue2
  t3 := Tryz.underlying3
  a3 := Tryz.isAgg3
  z3 := Tryz.sizeOf3
  v3 := Tryz.zeroValue3
  t4 := Tryz.underlying4
  a4 := Tryz.isAgg4
  z4 := Tryz.sizeOf4
  v4 := Tryz.zeroValue4
  t5 := Tryz.underlying5
  a5 := Tryz.isAgg5
  z5 := Tryz.sizeOf5
  v5 := Tryz.zeroValue5
  t9 := Tryz.underlying9
  a9 := Tryz.isAgg9
  z9 := Tryz.sizeOf9
  v9 := Tryz.zeroValue9
  t20 := Tryz.underlying20
  a20 := Tryz.isAgg20
  z20 := Tryz.sizeOf20
  v20 := Tryz.zeroValue20
  t37 := Tryz.underlying33
  a37 := Tryz.isAgg33
  z37 := Tryz.sizeOf33
  v37 := Tryz.zeroValue33
  t46 := Tryz.underlying35
  a46 := Tryz.isAgg35
  z46 := Tryz.sizeOf35
  v46 := Tryz.zeroValue35
  t51 := Tryz.underlying113
  a51 := Tryz.isAgg113
  z51 := Tryz.sizeOf113
  v51 := Tryz.zeroValue113
  t53 := Tryz.underlying116
  a53 := Tryz.isAgg116
  z53 := Tryz.sizeOf116
  v53 := Tryz.zeroValue116
  t171 := Tryz.underlying133
  a171 := Tryz.isAgg133
  z171 := Tryz.sizeOf133
  v171 := Tryz.zeroValue133
  t173 := Tryz.underlying136
  a173 := Tryz.isAgg136
  z173 := Tryz.sizeOf136
  v173 := Tryz.zeroValue136
  t212 := Tryz.underlying148
  a212 := Tryz.isAgg148
  z212 := Tryz.sizeOf148
  v212 := Tryz.zeroValue148
  t213 := Tryz.underlying149
  a213 := Tryz.isAgg149
  z213 := Tryz.sizeOf149
  t232 := Tryz.underlying157
  a232 := Tryz.isAgg157
  z232 := Tryz.sizeOf157
  v232 := Tryz.zeroValue157
  t233 := Tryz.underlying158
  a233 := Tryz.isAgg158
  z233 := Tryz.sizeOf158
  v233 := Tryz.zeroValue158
  g17 := by kernel_rfl
  g18 := by kernel_rfl
  g19 := by kernel_rfl }
open Go.RowKit Go.Sort Go.Lib in
/-- THE ROAD WITHOUT THE TABLE: 0 <= i < 100: NO PREMISE ON THE WORLD, AND THE WORLD IS AS IT WAS: a row that keeps its argument in that range need list no table ('laid = []'). (LAID: no walk: one application.) -/
theorem Tryz.strconv_Itoa_small (i : Nat) (hi : i < 100) (w : World) :
    Calls Tryz.prog 56 #[.int .i64 i] w fun e w' => e = .returned (.string ⟨(Lib.decDigits i).toArray⟩) ∧ w' = w := Any.strconv_Itoa_small Tryz.lays171 i hi w
def Tryz.lays105_ren : Go.Shelf.Ren := ⟨fun | 105 => 42 | 212 => 59 | 99 => 60 | 165 => 61 | 166 => 17 | 170 => 62 | 169 => 20 | 263 => 79 | 264 => 80 | 206 => 81 | 240 => 38 | 241 => 82 | 276 => 55 | 277 => 93 | n => n, fun | 9 => 9 | 3 => 3 | 4 => 4 | 20 => 20 | 0 => 0 | 46 => 35 | 109 => 94 | 5 => 5 | 72 => 45 | 76 => 49 | 51 => 113 | 146 => 114 | 53 => 116 | 148 => 117 | 70 => 43 | 37 => 33 | 75 => 48 | 127 => 81 | 164 => 92 | 80 => 53 | n => n, fun | n => n⟩
theorem Tryz.lays105 : Go.Proofs.Lays.n105 Tryz.prog Tryz.lays105_ren := {
  mixed := by kernel_rfl
  f99 := Tryz.func60.trans (congrArg some (by kernel_rfl))
  f105 := Tryz.func42.trans (congrArg some (by kernel_rfl))
  f165 := Tryz.func61.trans (congrArg some (by kernel_rfl))
  f166 := Tryz.func17.trans (congrArg some (by kernel_rfl))
  f169 := Tryz.func20.trans (congrArg some (by kernel_rfl))
  f170 := Tryz.func62.trans (congrArg some (by kernel_rfl))
  f206 := Tryz.func81.trans (congrArg some (by kernel_rfl))
  f212 := Tryz.func59.trans (congrArg some (by kernel_rfl))
  f240 := Tryz.func38.trans (congrArg some (by kernel_rfl))
  f241 := Tryz.func82.trans (congrArg some (by kernel_rfl))
  f263 := Tryz.func79.trans (congrArg some (by kernel_rfl))
  f264 := Tryz.func80.trans (congrArg some (by kernel_rfl))
  f276 := Tryz.func55.trans (congrArg some (by kernel_rfl))
  f277 := Tryz.func93.trans (congrArg some (by kernel_rfl))
  t0 := Tryz.underlying0
  a0 := Tryz.isAgg0
  z0 := Tryz.sizeOf0
  v0 := Tryz.zeroValue0
  t3 := Tryz.underlying3
  a3 := Tryz.isAgg3
  z3 := Tryz.sizeOf3
  v3 := Tryz.zeroValue3
  t4 := Tryz.underlying4
  a4 := Tryz.isAgg4
  z4 := Tryz.sizeOf4
  v4 := Tryz.zeroValue4
  t5 := Tryz.underlying5
  a5 := Tryz.isAgg5
  z5 := Tryz.sizeOf5
  v5 := Tryz.zeroValue5
  t9 := Tryz.underlying9
  a9 := Tryz.isAgg9
  z9 := Tryz.sizeOf9
  v9 := Tryz.zeroValue9
  t20 := Tryz.underlying20
  a20 := Tryz.isAgg20
  z20 := Tryz.sizeOf20
  v20 := Tryz.zeroValue20
  t37 := Tryz.underlying33
  a37 := Tryz.isAgg33
  z37 := Tryz.sizeOf33
  v37 := Tryz.zeroValue33
  t46 := Tryz.underlying35
  a46 := Tryz.isAgg35
  z46 := Tryz.sizeOf35
  v46 := Tryz.zeroValue35
  t51 := Tryz.underlying113
  a51 := Tryz.isAgg113
  z51 := Tryz.sizeOf113
  v51 := Tryz.zeroValue113
  t53 := Tryz.underlying116
  a53 := Tryz.isAgg116
  z53 := Tryz.sizeOf116
  v53 := Tryz.zeroValue116
  t70 := Tryz.underlying43
  a70 := Tryz.isAgg43
  z70 := Tryz.sizeOf43
  v70 := Tryz.zeroValue43
  t72 := Tryz.underlying45
  a72 := Tryz.isAgg45
  z72 := Tryz.sizeOf45
  v72 := Tryz.zeroValue45
  t75 := Tryz.underlying48
  a75 := Tryz.isAgg48
  z75 := Tryz.sizeOf48
  v75 := Tryz.zeroValue48
  t76 := Tryz.underlying49
  a76 := Tryz.isAgg49
  z76 := Tryz.sizeOf49
  v76 := Tryz.zeroValue49
  t109 := Tryz.underlying94
  a109 := Tryz.isAgg94
  z109 := Tryz.sizeOf94
  v109 := Tryz.zeroValue94
  t127 := Tryz.underlying81
  a127 := Tryz.isAgg81
  z127 := Tryz.sizeOf81
  v127 := Tryz.zeroValue81
  t146 := Tryz.underlying114
  a146 := Tryz.isAgg114
  z146 := Tryz.sizeOf114
  v146 := Tryz.zeroValue114
  t148 := Tryz.underlying117
  a148 := Tryz.isAgg117
  z148 := Tryz.sizeOf117
  v148 := Tryz.zeroValue117
  t164 := Tryz.underlying92
  a164 := Tryz.isAgg92
  z164 := Tryz.sizeOf92
  v164 := Tryz.zeroValue92 }
theorem Tryz.Builder_Extra_105 : Builder.Extra Tryz.prog Tryz.lays105_ren := {
  sizeBuilder := by kernel_rfl
  liesBuilder := by kernel_rfl
  t5 := Tryz.underlying5
  a5 := Tryz.isAgg5
  z5 := Tryz.sizeOf5
  v5 := Tryz.zeroValue5
  infoByte := by kernel_rfl
  cellsByte := by kernel_rfl
  sizeByte := by kernel_rfl
  neB5 := by decide }
open Go.RowKit Go.Lib in
/-- **strings.Repeat: count ≥ 0, the result within one allocation: count copies of s.** (LAID: no walk: one application.) -/
theorem Tryz.strings_Repeat (s : ByteArray) (c : Nat) (w : World) (hc : c ≤ 9223372036854775807) (hlen : s.size * c ≤ 140737488355328) :
    Calls Tryz.prog 42 #[.string s, .int .i64 c] w fun e w' => e = .returned (.string ⟨(Lib.repeatL s.data.toList c).toArray⟩) ∧ Below w.heap.size w w' := Any.strings_Repeat Tryz.lays105 Tryz.Builder_Extra_105 s c w hc hlen
end Go.Proofs

namespace Go.Proofs.YtbgilaacfbinbaaGreatDoor.PM
open Go Go.Proofs Go.RowKit
set_option maxRecDepth 100000
set_option linter.unusedVariables false
set_option linter.unusedSimpArgs false

theorem rep_one (c : UInt8) : ∀ n, Lib.repeatL [c] n = List.replicate n c
  | 0 => rfl
  | n + 1 => by rw [Lib.repeatL, rep_one c n]; rfl
/-- Repeat, of one byte. -/
def repeatG : Pure
  | [.string s, .int .i64 n] => some (s.size = 1 ∧ 0 ≤ n ∧ n < 2 ^ 40, .string (ofL (List.replicate n.toNat ((li s).getD 0 0))))
  | _ => none
theorem repeat_ok : PureOk Tryz.prog 42 repeatG :=
  .of_shelf Tryz.func42 rfl rfl fun args c r hg => by
    unfold repeatG at hg
    split at hg
    · rename_i s n
      cases hg
      refine ⟨rfl, fun hs => ⟨rfl, fun w _ => ?_⟩⟩
      obtain ⟨h1, h2, h3⟩ := hs
      obtain ⟨k, rfl⟩ : ∃ k : Nat, n = (k : Int) := ⟨n.toNat, by omega⟩
      refine (Tryz.strings_Repeat s k w (by omega) (by rw [h1]; omega)).mono fun e w' ⟨he, hb⟩ => ⟨?_, hb⟩
      rw [he, Int.toNat_natCast]
      have e1 : s.data.toList = [(li s).getD 0 0] := by
        have hl : (li s).length = 1 := by rw [li_size]; exact h1
        show li s = _
        match hq : li s, hl with
        | [x], _ => rfl
      rw [e1, rep_one]
    · cases hg
theorem zeros_ok : PureOk Tryz.prog 19 zerosG := by
  refine .of_run (call := callOf [(42, pureS repeatG)]) (hint := hints 19) (tb := noTab) hm (callOf_cons repeat_ok.spec callOf_nil) Tryz.func19 (by kernel_rfl) rfl (by kernel_rfl) (by repeat' first | exact trivial | constructor |  (intro _ h; cases h)) fun args c r h => ?_
  unfold zerosG at h
  split at h
  · rename_i n
    cases h
    refine ⟨rfl, fun hs => ⟨rfl, 1, fun K hK => ?_⟩⟩
    have hK := hK []
    refine toR (R := ((1 = 1) ∧ (((0 : Int) ≤ n) ∧ (n < ((2 : Int) ^ 40)))) ∧ (K (.string (ofL (List.replicate n.toNat ((li (ByteArray.mk #[0])).getD 0 0)))) [])) (by kernel_rfl) ?_
    exact ⟨⟨rfl, hs.1, hs.2⟩, hK⟩
  · cases h
def blocksN (n : Nat) : Nat := (n + 511) / 512
def blocksG : Pure
  | [.int .i64 n] => some (0 ≤ n ∧ n < 2 ^ 62, .int .i64 (blocksN n.toNat))
  | _ => none
theorem blocks_ok : PureOk Tryz.prog 46 blocksG := by
  refine .of_run (call := callOf []) (hint := hints 46) (tb := noTab) hm (callOf_nil) Tryz.func46 (by kernel_rfl) rfl (by kernel_rfl) (by repeat' first | exact trivial | constructor |  (intro _ h; cases h)) fun args c r h => ?_
  unfold blocksG at h
  split at h
  · rename_i n
    cases h
    refine ⟨rfl, fun hs => ⟨rfl, 1, fun K hK => ?_⟩⟩
    have hK := hK []
    refine toR (R := bcase (decide (n < (1 : Int))) (K (.int .i64 (0 : Int)) []) (K (.int .i64 (IntKind.i64.wrap ((IntKind.i64.wrap ((IntKind.i64.wrap (n - (1 : Int))).tdiv (512 : Int))) + (1 : Int)))) [])) (by kernel_rfl) ?_
    obtain ⟨h0, h1⟩ := hs
    refine bcase_of (fun h => ?_) (fun h => ?_)
    · have h := of_decide_eq_true h
      have e : ((blocksN n.toNat : Nat) : Int) = 0 := by unfold blocksN; omega
      rw [e] at hK
      exact hK
    · have h := of_decide_eq_false h
      have e : IntKind.i64.wrap (IntKind.i64.wrap ((IntKind.i64.wrap (n - 1)).tdiv 512) + 1) = ((blocksN n.toNat : Nat) : Int) := by
        rw [wrap_id (x := n - 1) (by omega) (by omega), Int.tdiv_eq_ediv_of_nonneg (by omega), wrap_id (x := (n - 1) / 512) (by omega) (by omega), wrap_id (by omega) (by omega)]
        unfold blocksN
        omega
      rw [e]
      exact hK
  · cases h
theorem data_ok : PureOk Tryz.prog 41 fullG := by
  refine .of_run (call := callOf [(46, pureS blocksG), (19, pureS zerosG)]) (hint := hints 41) (tb := noTab) hm (callOf_cons blocks_ok.spec (callOf_cons zeros_ok.spec callOf_nil)) Tryz.func41 (by kernel_rfl) rfl (by kernel_rfl) (by repeat' first | exact trivial | constructor |  (intro _ h; cases h)) fun args c r h => ?_
  unfold fullG at h
  split at h
  · rename_i s
    cases h
    refine ⟨rfl, fun hs => ⟨rfl, 1, fun K hK => ?_⟩⟩
    have hK := hK []
    refine toR (R := (((0 : Int) ≤ (↑s.size : Int)) ∧ ((↑s.size : Int) < ((2 : Int) ^ 62))) ∧ ((((0 : Int) ≤ (IntKind.i64.wrap ((IntKind.i64.wrap ((512 : Int) * (↑(blocksN (↑s.size : Int).toNat) : Int))) - (↑s.size : Int)))) ∧ ((IntKind.i64.wrap ((IntKind.i64.wrap ((512 : Int) * (↑(blocksN (↑s.size : Int).toNat) : Int))) - (↑s.size : Int))) < ((2 : Int) ^ 40))) ∧ (need (decide ((s.size + (zs (IntKind.i64.wrap ((IntKind.i64.wrap ((512 : Int) * (↑(blocksN (↑s.size : Int).toNat) : Int))) - (↑s.size : Int))).toNat).size) < 9223372036854775808)) (K (.string (s ++ (zs (IntKind.i64.wrap ((IntKind.i64.wrap ((512 : Int) * (↑(blocksN (↑s.size : Int).toNat) : Int))) - (↑s.size : Int))).toNat))) [])))) (by kernel_rfl) ?_
    have e : IntKind.i64.wrap (IntKind.i64.wrap ((512 : Int) * ((blocksN (s.size : Int).toNat : Nat) : Int)) - (s.size : Int)) = (((512 - s.size % 512) % 512 : Nat) : Int) := by
      have hb : blocksN (s.size : Int).toNat = (s.size + 511) / 512 := by unfold blocksN; omega
      rw [hb, wrap_id (x := 512 * (((s.size + 511) / 512 : Nat) : Int)) (by omega) (by omega), wrap_id (by omega) (by omega)]
      omega
    rw [e]
    simp only [Int.toNat_natCast]
    have z := zs_size ((512 - s.size % 512) % 512)
    exact ⟨⟨by omega, by omega⟩, ⟨by omega, by omega⟩, need_of (decide_eq_true (by omega)) hK⟩
  · cases h
theorem field_ok : PureOk Tryz.prog 57 textG := by
  refine .of_run (call := callOf [(19, pureS zerosG)]) (hint := hints 57) (tb := noTab) hm (callOf_cons zeros_ok.spec callOf_nil) Tryz.func57 (by kernel_rfl) rfl (by kernel_rfl) (by repeat' first | exact trivial | constructor |  (intro _ h; cases h)) fun args c r h => ?_
  unfold textG at h
  split at h
  · rename_i s n
    cases h
    refine ⟨rfl, fun hs => ⟨rfl, 1, fun K hK => ?_⟩⟩
    have hK := hK []
    refine toR (R := need ((decide ((0 : Int) ≤ (minI (↑s.size : Int) n))) && (decide ((minI (↑s.size : Int) n) ≤ (↑s.size : Int)))) ((((0 : Int) ≤ (IntKind.i64.wrap (n - (↑(s.extract 0 (minI (↑s.size : Int) n).toNat).size : Int)))) ∧ ((IntKind.i64.wrap (n - (↑(s.extract 0 (minI (↑s.size : Int) n).toNat).size : Int))) < ((2 : Int) ^ 40))) ∧ (need (decide (((s.extract 0 (minI (↑s.size : Int) n).toNat).size + (zs (IntKind.i64.wrap (n - (↑(s.extract 0 (minI (↑s.size : Int) n).toNat).size : Int))).toNat).size) < 9223372036854775808)) (K (.string ((s.extract 0 (minI (↑s.size : Int) n).toNat) ++ (zs (IntKind.i64.wrap (n - (↑(s.extract 0 (minI (↑s.size : Int) n).toNat).size : Int))).toNat))) [])))) (by kernel_rfl) ?_
    obtain ⟨h0, h1, h2⟩ := hs
    have e1 : (minI (s.size : Int) n).toNat = min n.toNat s.size := by unfold minI; split <;> omega
    have e0 : 0 ≤ minI (s.size : Int) n ∧ minI (s.size : Int) n ≤ (s.size : Int) := by unfold minI; split <;> omega
    have e2 : (s.extract 0 (minI (s.size : Int) n).toNat).size = min n.toNat s.size := by rw [ByteArray.size_extract, e1]; omega
    have e3 : IntKind.i64.wrap (n - ((s.extract 0 (minI (s.size : Int) n).toNat).size : Int)) = ((n.toNat - s.size : Nat) : Int) := by rw [e2, wrap_id (by omega) (by omega)]; omega
    have e4 : s.extract 0 (minI (s.size : Int) n).toNat = ofL ((li s).take n.toNat) := by
      apply li_inj
      rw [li_extract, List.drop_zero, e1, li_ofL, ← li_size, List.take_eq_take_iff]
      simp
    have e5 : (ofL ((li s).take n.toNat)).size ≤ s.size := by rw [← e4, e2]; omega
    simp only [e3]
    simp only [e4, Int.toNat_natCast]
    have z := zs_size (n.toNat - s.size)
    exact need_of (by simp only [Bool.and_eq_true, decide_eq_true_eq]; exact e0) ⟨⟨by omega, by omega⟩, need_of (decide_eq_true (by omega)) hK⟩
  · cases h
def ibG : Pure
  | [.string s, .int .u8 c] => some (True, .int .i64 (Lib.indexByte s.data.toList c.toNat.toUInt8))
  | _ => none
theorem ib_ok : PureOk Tryz.prog 54 ibG :=
  .of_shelf Tryz.func54 rfl rfl fun args c r hg => by
    unfold ibG at hg
    split at hg
    · rename_i s c
      cases hg
      exact ⟨rfl, fun _ => ⟨rfl, fun w _ => (Tryz.strings_IndexByte s c w).mono fun e w' ⟨he, hb⟩ => ⟨he, by rw [hb]; exact Below.refl _ _⟩⟩⟩
    · cases hg
def namedP (s : ByteArray) : Bool := !(isS s []) && (decide ((s.size : Int) ≤ 200) && decide (Lib.indexByte s.data.toList 0 < 0))
def namedPG : Pure
  | [.string s] => some (s.size < 2 ^ 62, .bool (namedP s))
  | _ => none
theorem named_ok : PureOk Tryz.prog 37 namedPG := by
  refine .of_run (call := callOf [(54, pureS ibG)]) (hint := hints 37) (tb := noTab) hm (callOf_cons ib_ok.spec callOf_nil) Tryz.func37 (by kernel_rfl) rfl (by kernel_rfl) (by repeat' first | exact trivial | constructor |  (intro _ h; cases h)) fun args c r h => ?_
  unfold namedPG at h
  split at h
  · rename_i s
    cases h
    refine ⟨rfl, fun hs => ⟨rfl, 1, fun K hK => ?_⟩⟩
    have hK := hK []
    refine toR (R := bcase (!(s.toList == (ByteArray.mk #[]).toList)) (bcase (decide ((↑s.size : Int) ≤ (200 : Int))) (True ∧ (K (.bool (decide ((Lib.indexByte s.data.toList (Nat.toUInt8 0)) < (0 : Int)))) [])) (K (.bool false) [])) (K (.bool false) [])) (by kernel_rfl) ?_
    simp only [namedP, isS] at hK
    repeat' first | with_reducible exact trivial | with_reducible refine need_of (by first | first | with_reducible assumption | (simp only [List.length_cons, List.length_nil, Nat.zero_add, Nat.zero_lt_succ, decide_true, Bool.and_true, Bool.and_self]; done) | with_reducible exact pos_of (by assumption) | with_reducible exact pos_of' (by assumption) | omega | (simp only [ByteArray.size_append, sz1, decide_eq_true_eq, *]; omega) | decide | (simp only [Bool.and_true, Bool.and_eq_true, decide_eq_true_eq, ByteArray.size_extract, ByteArray.size_append, sz1, Int.toNat_natCast, List.getD_eq_getElem?_getD, beq_iff_eq, decide_eq_false_iff_not] at *; omega) | ((repeat' constructor) <;> first | rfl | first | with_reducible assumption | (simp only [List.length_cons, List.length_nil, Nat.zero_add, Nat.zero_lt_succ, decide_true, Bool.and_true, Bool.and_self]; done) | with_reducible exact pos_of (by assumption) | with_reducible exact pos_of' (by assumption) | omega | (simp only [ByteArray.size_append, sz1, decide_eq_true_eq, *]; omega) | decide | (simp only [Bool.and_true, Bool.and_eq_true, decide_eq_true_eq, ByteArray.size_extract, ByteArray.size_append, sz1, Int.toNat_natCast, List.getD_eq_getElem?_getD, beq_iff_eq, decide_eq_false_iff_not] at *; omega))) ?_ | with_reducible refine And.intro (by first | first | with_reducible assumption | (simp only [List.length_cons, List.length_nil, Nat.zero_add, Nat.zero_lt_succ, decide_true, Bool.and_true, Bool.and_self]; done) | with_reducible exact pos_of (by assumption) | with_reducible exact pos_of' (by assumption) | omega | (simp only [ByteArray.size_append, sz1, decide_eq_true_eq, *]; omega) | decide | (simp only [Bool.and_true, Bool.and_eq_true, decide_eq_true_eq, ByteArray.size_extract, ByteArray.size_append, sz1, Int.toNat_natCast, List.getD_eq_getElem?_getD, beq_iff_eq, decide_eq_false_iff_not] at *; omega) | ((repeat' constructor) <;> first | rfl | first | with_reducible assumption | (simp only [List.length_cons, List.length_nil, Nat.zero_add, Nat.zero_lt_succ, decide_true, Bool.and_true, Bool.and_self]; done) | with_reducible exact pos_of (by assumption) | with_reducible exact pos_of' (by assumption) | omega | (simp only [ByteArray.size_append, sz1, decide_eq_true_eq, *]; omega) | decide | (simp only [Bool.and_true, Bool.and_eq_true, decide_eq_true_eq, ByteArray.size_extract, ByteArray.size_append, sz1, Int.toNat_natCast, List.getD_eq_getElem?_getD, beq_iff_eq, decide_eq_false_iff_not] at *; omega))) ?_ | with_reducible refine bcase_not ?_ | with_reducible refine bcase_t rfl ?_ | with_reducible refine bcase_f rfl ?_ | with_reducible refine bcase_t (by assumption) ?_ | with_reducible refine bcase_f (by assumption) ?_ | (with_reducible refine bcase_of (fun hx => ?_) (fun hx => ?_) <;> try simp only [hx, bcase_tt, bcase_ff, Int.toNat_natCast, Bool.not_true, Bool.not_false, cond_true, cond_false, Bool.and_true, Bool.and_false, Bool.true_and, Bool.false_and, Bool.or_true, Bool.or_false, Bool.true_or, Bool.false_or] at hK)
    all_goals exact hK
  · cases h
/-- The program's sum of a head. -/
def psumFrom (s : ByteArray) : Nat → Nat → Int → Int
  | 0, _, n => n
  | d + 1, i, n => psumFrom s d (i + 1) (bif decide (i < 148) || decide (155 < i) then n + bt s i else n)
def psumLp : LSpec
  | [(0, .string s), (3, .int .i64 n), (6, .int .i64 m), (7, .int .i64 i)], [], K => (n = 256 ∧ i = 0 ∧ m = (s.size : Int) ∧ s.size < 2 ^ 40) ∧ K (.exit 0) [(3, .int .i64 (psumFrom s s.size 0 256))] []
  | _, _, _ => False
theorem psum_rounds (s : ByteArray) (hs : s.size < 2 ^ 40) (K : Kont) : ∀ (d i : Nat) (n : Int), i + d = s.size → 0 ≤ n → n ≤ 256 + 256 * (i : Int) →
    K (.exit 0) [(3, .int .i64 (psumFrom s d i n))] [] →
    rnds Tryz.prog (callOf []) (hints 49) noTab (d + 1) (lp Tryz.f49 3) [(0, .string s), (3, .int .i64 n), (6, .int .i64 (s.size : Int)), (7, .int .i64 (i : Int))] [] K
  | 0, i, n, hi, h0, h1, hK => by
    refine toR (R := bcase (decide ((↑i : Int) < (↑s.size : Int))) (bcase (decide ((↑i : Int) < (148 : Int))) (need (decide ((↑i : Int) < (↑s.size : Int))) (rnds Tryz.prog (callOf []) (hints 49) noTab (nat_lit 0) (lp Tryz.f49 3) [(0, (.string s)), (3, (.int .i64 (IntKind.i64.wrap (n + (IntKind.i64.wrap (bt s (↑i : Int))))))), (6, (.int .i64 (↑s.size : Int))), (7, (.int .i64 (IntKind.i64.wrap ((↑i : Int) + (1 : Int)))))] [] K)) (bcase (decide ((↑i : Int) > (155 : Int))) (need (decide ((↑i : Int) < (↑s.size : Int))) (rnds Tryz.prog (callOf []) (hints 49) noTab (nat_lit 0) (lp Tryz.f49 3) [(0, (.string s)), (3, (.int .i64 (IntKind.i64.wrap (n + (IntKind.i64.wrap (bt s (↑i : Int))))))), (6, (.int .i64 (↑s.size : Int))), (7, (.int .i64 (IntKind.i64.wrap ((↑i : Int) + (1 : Int)))))] [] K)) (rnds Tryz.prog (callOf []) (hints 49) noTab (nat_lit 0) (lp Tryz.f49 3) [(0, (.string s)), (3, (.int .i64 n)), (6, (.int .i64 (↑s.size : Int))), (7, (.int .i64 (IntKind.i64.wrap ((↑i : Int) + (1 : Int)))))] [] K))) (K (.exit 0) [(3, (.int .i64 n))] [])) (by kernel_rfl) ?_
    exact bcase_f (decide_eq_false (by omega)) hK
  | d + 1, i, n, hi, h0, h1, hK => by
    have w0 : IntKind.i64.wrap ((i : Int) + 1) = ((i + 1 : Nat) : Int) := wrap_id (by omega) (by omega)
    have b := bt_range s i
    have ih := fun n' h0 h1 hK => psum_rounds s hs K d (i + 1) n' (by omega) h0 h1 hK
    have w1 : IntKind.i64.wrap (bt s (i : Int)) = bt s (i : Int) := wrap_id (by omega) (by omega)
    have w2 : IntKind.i64.wrap (n + bt s (i : Int)) = n + bt s (i : Int) := wrap_id (by omega) (by omega)
    obtain ⟨kk, hkk⟩ : ∃ kk, kk = d + 1 := ⟨_, rfl⟩; rw [← hkk] at ih ⊢
    refine toR (R := bcase (decide ((↑i : Int) < (↑s.size : Int))) (bcase (decide ((↑i : Int) < (148 : Int))) (need (decide ((↑i : Int) < (↑s.size : Int))) (rnds Tryz.prog (callOf []) (hints 49) noTab kk (lp Tryz.f49 3) [(0, (.string s)), (3, (.int .i64 (IntKind.i64.wrap (n + (IntKind.i64.wrap (bt s (↑i : Int))))))), (6, (.int .i64 (↑s.size : Int))), (7, (.int .i64 (IntKind.i64.wrap ((↑i : Int) + (1 : Int)))))] [] K)) (bcase (decide ((↑i : Int) > (155 : Int))) (need (decide ((↑i : Int) < (↑s.size : Int))) (rnds Tryz.prog (callOf []) (hints 49) noTab kk (lp Tryz.f49 3) [(0, (.string s)), (3, (.int .i64 (IntKind.i64.wrap (n + (IntKind.i64.wrap (bt s (↑i : Int))))))), (6, (.int .i64 (↑s.size : Int))), (7, (.int .i64 (IntKind.i64.wrap ((↑i : Int) + (1 : Int)))))] [] K)) (rnds Tryz.prog (callOf []) (hints 49) noTab kk (lp Tryz.f49 3) [(0, (.string s)), (3, (.int .i64 n)), (6, (.int .i64 (↑s.size : Int))), (7, (.int .i64 (IntKind.i64.wrap ((↑i : Int) + (1 : Int)))))] [] K))) (K (.exit 0) [(3, (.int .i64 n))] [])) (by kernel_rfl) ?_
    simp only [w0, w1, w2]
    unfold psumFrom at hK
    refine bcase_t (decide_eq_true (by omega)) (bcase_of (fun h => ?_) (fun h => bcase_of (fun h2 => ?_) (fun h2 => ?_)))
    · have h := of_decide_eq_true h
      rw [decide_eq_true (show i < 148 by omega), Bool.true_or] at hK
      exact need_of (decide_eq_true (by omega)) (ih _ (by omega) (by omega) hK)
    · have h2 := of_decide_eq_true h2
      rw [decide_eq_true (show 155 < i by omega), Bool.or_true] at hK
      exact need_of (decide_eq_true (by omega)) (ih _ (by omega) (by omega) hK)
    · have h := of_decide_eq_false h
      have h2 := of_decide_eq_false h2
      rw [decide_eq_false (show ¬ i < 148 by omega), decide_eq_false (show ¬ 155 < i by omega), Bool.or_self] at hK
      exact ih _ (by omega) (by omega) hK
theorem psumLp_ok : CodeOk Tryz.prog Tryz.f49.ntmps (.loop (lp Tryz.f49 3)) psumLp := by
  refine loop_ok (call := callOf []) (hint := hints 49) (tb := noTab) hm (callOf_nil) (by kernel_rfl) (by repeat' first | exact trivial | constructor |  (intro _ h; cases h)) fun fr H K h => ?_
  unfold psumLp at h
  split at h
  · obtain ⟨⟨rfl, rfl, rfl, h1⟩, hK⟩ := h
    exact ⟨_, psum_rounds _ h1 K _ 0 256 (by omega) (by omega) (by omega) hK⟩
  · exact h.elim
def tab49 : Tab := ⟨fun | 3 => some psumLp | _ => none, fun _ => none⟩
def psumS (s : ByteArray) : Int := psumFrom s s.size 0 256
def psumG : Pure
  | [.string s] => some (s.size < 2 ^ 40, .int .i64 (psumS s))
  | _ => none
theorem psum_ok : PureOk Tryz.prog 49 psumG := by
  refine .of_run (call := callOf []) (hint := hints 49) (tb := tab49) hm (callOf_nil) Tryz.func49 (by kernel_rfl) rfl (by kernel_rfl) (by repeat' first | exact trivial | constructor | (intro _ h; cases h; exact psumLp_ok) | (intro _ h; cases h)) fun args c r h => ?_
  unfold psumG at h
  split at h
  · rename_i s
    cases h
    refine ⟨rfl, fun hs => ⟨rfl, 1, fun K hK => ?_⟩⟩
    have hK := hK []
    refine toR (R := (((256 : Int) = (256 : Int)) ∧ (((0 : Int) = (0 : Int)) ∧ (((↑s.size : Int) = (↑s.size : Int)) ∧ (s.size < 1099511627776)))) ∧ (K (.int .i64 (psumFrom s s.size 0 (256 : Int))) [])) (by kernel_rfl) ?_
    exact ⟨⟨rfl, rfl, rfl, hs⟩, hK⟩
  · cases h
/-- At a whole head it is the reference's. -/
theorem psum_gap (s : ByteArray) : ∀ d i n, i + d ≤ 148 ∨ 155 < i → psumFrom s d i n = sumFrom s d i n
  | 0, _, _, _ => rfl
  | d + 1, i, n, h => by
    unfold psumFrom sumFrom
    have e : (decide (i < 148) || decide (155 < i)) = true := by
      rcases h with h | h
      · rw [decide_eq_true (show i < 148 by omega), Bool.true_or]
      · rw [decide_eq_true h, Bool.or_true]
    rw [e]
    exact psum_gap s d (i + 1) _ (by omega)
end Go.Proofs.YtbgilaacfbinbaaGreatDoor.PM

namespace Go.Proofs.YtbgilaacfbinbaaGreatDoor.PM
open Go Go.Proofs Go.RowKit
set_option maxRecDepth 100000
set_option linter.unusedVariables false
set_option linter.unusedSimpArgs false

def tz8G : Pure
  | [.int .u64 n] => some (n = 8, .int .i64 3)
  | _ => none
theorem tz64_ok : PureOk Tryz.prog 122 tz8G := by
  refine .of_run (call := callOf []) (hint := hints 122) (tb := noTab) hm (callOf_nil) Tryz.func122 (by kernel_rfl) rfl (by kernel_rfl) (by repeat' first | exact trivial | constructor |  (intro _ h; cases h)) fun args c r h => ?_
  unfold tz8G at h
  split at h
  · rename_i n
    cases h
    refine ⟨rfl, fun hs => ⟨rfl, 1, fun K hK => ?_⟩⟩
    have hK := hK []
    subst hs
    refine toR (R := K (.int .i64 (IntKind.i64.wrap (pickI glob8 7))) []) (by kernel_rfl) ?_
    exact hK
  · cases h
theorem tz_ok : PureOk Tryz.prog 119 tz8G := by
  refine .of_run (call := callOf [(122, pureS tz8G)]) (hint := hints 119) (tb := noTab) hm (callOf_cons tz64_ok.spec callOf_nil) Tryz.func119 (by kernel_rfl) rfl (by kernel_rfl) (by repeat' first | exact trivial | constructor |  (intro _ h; cases h)) fun args c r h => ?_
  unfold tz8G at h
  split at h
  · rename_i n
    cases h
    refine ⟨rfl, fun hs => ⟨rfl, 1, fun K hK => ?_⟩⟩
    have hK := hK []
    subst hs
    refine toR (R := ((8 : Int) = (8 : Int)) ∧ (K (.int .i64 (3 : Int)) [])) (by kernel_rfl) ?_
    exact ⟨rfl, hK⟩
  · cases h
def two8G : Pure
  | [.int .i64 n] => some (n = 8, .bool true)
  | _ => none
theorem two8_ok : PureOk Tryz.prog 118 two8G := by
  refine .of_run (call := callOf []) (hint := hints 118) (tb := noTab) hm (callOf_nil) Tryz.func118 (by kernel_rfl) rfl (by kernel_rfl) (by repeat' first | exact trivial | constructor |  (intro _ h; cases h)) fun args c r h => ?_
  unfold two8G at h
  split at h
  · rename_i n
    cases h
    refine ⟨rfl, fun hs => ⟨rfl, 1, fun K hK => ?_⟩⟩
    have hK := hK []
    subst hs
    refine toR (R := K (.bool true) []) (by kernel_rfl) ?_
    exact hK
  · cases h
def digT : ByteArray := ByteArray.mk #[48, 49, 50, 51, 52, 53, 54, 55, 56, 57, 97, 98, 99, 100, 101, 102, 103, 104, 105, 106, 107, 108, 109, 110, 111, 112, 113, 114, 115, 116, 117, 118, 119, 120, 121, 122]
/-- What is left of a number, and its digits to the base 8 behind that. -/
def octTail : Nat → Nat → List Int → Nat × List Int
  | 0, u, suf => (u, suf)
  | d + 1, u, suf => bif decide (8 ≤ u) then octTail d (u / 8) (((48 + u % 8 : Nat) : Int) :: suf) else (u, suf)
theorem octTail_lt : ∀ d u suf, u < 8 ^ (d + 1) → (octTail d u suf).1 < 8
  | 0, u, suf, h => by simpa [octTail] using h
  | d + 1, u, suf, h => by
    unfold octTail
    cases hc : decide (8 ≤ u) with
    | true => exact octTail_lt d (u / 8) _ (by rw [Nat.pow_succ] at h; omega)
    | false => have := of_decide_eq_false hc; simp only [cond_false]; omega
theorem octTail_len : ∀ d u suf, (octTail d u suf).2.length ≤ d + suf.length
  | 0, u, suf => by simp [octTail]
  | d + 1, u, suf => by
    unfold octTail
    cases decide (8 ≤ u) with
    | true => have := octTail_len d (u / 8) (((48 + u % 8 : Nat) : Int) :: suf); rw [List.length_cons] at this; simp only [cond_true]; omega
    | false => simp only [cond_false]; omega
theorem and7 (u : Nat) (h : u < 2 ^ 63) : (BitVec.ofInt 64 (u : Int) &&& BitVec.ofInt 64 (7 : Int)).toNat = u % 8 := by
  rw [BitVec.toNat_and]
  have e1 : (BitVec.ofInt 64 (u : Int)).toNat = u := by rw [BitVec.toNat_ofInt]; omega
  have e2 : (BitVec.ofInt 64 (7 : Int)).toNat = 2 ^ 3 - 1 := by decide
  rw [e1, e2, Nat.and_two_pow_sub_one_eq_mod]
theorem wrap_u64 {x : Int} (h0 : 0 ≤ x) (h1 : x < 2 ^ 64) : IntKind.u64.wrap x = x := by
  show x % 18446744073709551616 = x
  omega
theorem bt_dig (k : Nat) (h : k < 8) : bt (ByteArray.mk #[48, 49, 50, 51, 52, 53, 54, 55, 56, 57, 97, 98, 99, 100, 101, 102, 103, 104, 105, 106, 107, 108, 109, 110, 111, 112, 113, 114, 115, 116, 117, 118, 119, 120, 121, 122]) (k : Int) = ((48 + k : Nat) : Int) := by
  match k, h with
  | 0, _ | 1, _ | 2, _ | 3, _ | 4, _ | 5, _ | 6, _ | 7, _ => rfl
theorem set_rep (i : Nat) (suf : List Int) (v : Int) : (List.replicate (i + 1) (0 : Int) ++ suf).set i v = List.replicate i 0 ++ v :: suf := by
  rw [List.replicate_succ', List.append_assoc, List.set_append_right _ _ (by simp)]
  simp
theorem fmt_rounds (K : Kont) : ∀ (d u : Nat) (suf : List Int) (i : Nat), u < 2 ^ 63 → u < 8 ^ (d + 1) → i + suf.length = 65 → d + 1 < i →
    K (.exit 0) [(0, .slice none 0 0), (1, .int .u64 ((octTail d u suf).1 : Int)), (3, .bool false), (4, .bool false), (10, .slice none 0 0), (11, .string (ByteArray.mk #[])), (12, .pointer (some ⟨0, 0, some 0⟩)), (13, .int .i64 ((65 - (octTail d u suf).2.length : Nat) : Int))] [.row (arrC .u8) 65 [List.replicate (65 - (octTail d u suf).2.length) 0 ++ (octTail d u suf).2] .own] →
    rnds Tryz.prog (callOf [(118, pureS two8G), (119, pureS tz8G)]) (hints 106) noTab (d + 1) (lp Tryz.f106 11) [(0, .slice none 0 0), (1, .int .u64 (u : Int)), (3, .bool false), (4, .bool false), (10, .slice none 0 0), (11, .string (ByteArray.mk #[])), (12, .pointer (some ⟨0, 0, some 0⟩)), (13, .int .i64 (i : Int)), (14, .int .u64 3), (15, .int .u64 8), (16, .int .u64 7)] [.row (arrC .u8) 65 [List.replicate i 0 ++ suf] .own] K
  | 0, u, suf, i, hb, h2, h3, h4, hK => by
    refine toR (R := bcase (decide ((↑u : Int) ≥ (8 : Int))) (need (decide ((IntKind.u64.wrap (↑((BitVec.ofInt 64 (↑u : Int)) &&& (BitVec.ofInt 64 (7 : Int))).toNat : Int)) < (↑36 : Int))) (need ((decide ((0 : Int) ≤ (IntKind.i64.wrap ((↑i : Int) - (1 : Int))))) && (decide ((IntKind.i64.wrap ((↑i : Int) - (1 : Int))) < (↑65 : Int)))) (need ((decide (0 < 1)) && (((IntKind.i64.wrap ((↑i : Int) - (1 : Int))).toNat + 1).ble 65)) (rnds Tryz.prog (callOf [(118, (pureS two8G)), (119, (pureS tz8G))]) (hints 106) noTab (nat_lit 0) (lp Tryz.f106 11) [(0, (.slice none 0 0)), (1, (.int .u64 ((↑u : Int).fdiv ((2 : Int) ^ 3)))), (3, (.bool false)), (4, (.bool false)), (10, (.slice none 0 0)), (11, (.string (ByteArray.mk #[]))), (12, (.pointer (some (Addr.mk 0 0 (some 0))))), (13, (.int .i64 (IntKind.i64.wrap ((↑i : Int) - (1 : Int))))), (14, (.int .u64 (3 : Int))), (15, (.int .u64 (8 : Int))), (16, (.int .u64 (7 : Int)))] [(VB.row (arrC .u8) 65 [(List.set ((List.replicate i (0 : Int)) ++ suf) (IntKind.i64.wrap ((↑i : Int) - (1 : Int))).toNat (bt (ByteArray.mk #[48, 49, 50, 51, 52, 53, 54, 55, 56, 57, 97, 98, 99, 100, 101, 102, 103, 104, 105, 106, 107, 108, 109, 110, 111, 112, 113, 114, 115, 116, 117, 118, 119, 120, 121, 122]) (IntKind.u64.wrap (↑((BitVec.ofInt 64 (↑u : Int)) &&& (BitVec.ofInt 64 (7 : Int))).toNat : Int))))] .own)] K)))) (K (.exit 0) [(0, (.slice none 0 0)), (1, (.int .u64 (↑u : Int))), (3, (.bool false)), (4, (.bool false)), (10, (.slice none 0 0)), (11, (.string (ByteArray.mk #[]))), (12, (.pointer (some (Addr.mk 0 0 (some 0))))), (13, (.int .i64 (↑i : Int)))] [(VB.row (arrC .u8) 65 [((List.replicate i (0 : Int)) ++ suf)] .own)])) (by kernel_rfl) ?_
    have e : 65 - suf.length = i := by omega
    unfold octTail at hK
    rw [e] at hK
    exact bcase_f (decide_eq_false (by simp at h2; omega)) hK
  | d + 1, u, suf, i, hb, h2, h3, h4, hK => by
    obtain ⟨i', rfl⟩ : ∃ i', i = i' + 1 := ⟨i - 1, by omega⟩
    have w1 : IntKind.i64.wrap (((i' + 1 : Nat) : Int) - 1) = (i' : Int) := by rw [wrap_id (by omega) (by omega)]; omega
    have m1 : (u : Int).fdiv ((2 : Int) ^ 3) = ((u / 8 : Nat) : Int) := by rw [Int.fdiv_eq_ediv_of_nonneg _ (by decide)]; omega
    have m2 : IntKind.u64.wrap ((u % 8 : Nat) : Int) = ((u % 8 : Nat) : Int) := wrap_u64 (by omega) (by omega)
    have ih := fun hK => fmt_rounds K d (u / 8) (((48 + u % 8 : Nat) : Int) :: suf) i' (by omega) (by rw [Nat.pow_succ] at h2; omega) (by simp; omega) (by omega) hK
    obtain ⟨kk, hkk⟩ : ∃ kk, kk = d + 1 := ⟨_, rfl⟩; rw [← hkk] at ih ⊢
    refine toR (R := bcase (decide ((↑u : Int) ≥ (8 : Int))) (need (decide ((IntKind.u64.wrap (↑((BitVec.ofInt 64 (↑u : Int)) &&& (BitVec.ofInt 64 (7 : Int))).toNat : Int)) < (↑36 : Int))) (need ((decide ((0 : Int) ≤ (IntKind.i64.wrap ((↑(i' + 1) : Int) - (1 : Int))))) && (decide ((IntKind.i64.wrap ((↑(i' + 1) : Int) - (1 : Int))) < (↑65 : Int)))) (need ((decide (0 < 1)) && (((IntKind.i64.wrap ((↑(i' + 1) : Int) - (1 : Int))).toNat + 1).ble 65)) (rnds Tryz.prog (callOf [(118, (pureS two8G)), (119, (pureS tz8G))]) (hints 106) noTab kk (lp Tryz.f106 11) [(0, (.slice none 0 0)), (1, (.int .u64 ((↑u : Int).fdiv ((2 : Int) ^ 3)))), (3, (.bool false)), (4, (.bool false)), (10, (.slice none 0 0)), (11, (.string (ByteArray.mk #[]))), (12, (.pointer (some (Addr.mk 0 0 (some 0))))), (13, (.int .i64 (IntKind.i64.wrap ((↑(i' + 1) : Int) - (1 : Int))))), (14, (.int .u64 (3 : Int))), (15, (.int .u64 (8 : Int))), (16, (.int .u64 (7 : Int)))] [(VB.row (arrC .u8) 65 [(List.set ((List.replicate (i' + 1) (0 : Int)) ++ suf) (IntKind.i64.wrap ((↑(i' + 1) : Int) - (1 : Int))).toNat (bt (ByteArray.mk #[48, 49, 50, 51, 52, 53, 54, 55, 56, 57, 97, 98, 99, 100, 101, 102, 103, 104, 105, 106, 107, 108, 109, 110, 111, 112, 113, 114, 115, 116, 117, 118, 119, 120, 121, 122]) (IntKind.u64.wrap (↑((BitVec.ofInt 64 (↑u : Int)) &&& (BitVec.ofInt 64 (7 : Int))).toNat : Int))))] .own)] K)))) (K (.exit 0) [(0, (.slice none 0 0)), (1, (.int .u64 (↑u : Int))), (3, (.bool false)), (4, (.bool false)), (10, (.slice none 0 0)), (11, (.string (ByteArray.mk #[]))), (12, (.pointer (some (Addr.mk 0 0 (some 0))))), (13, (.int .i64 (↑(i' + 1) : Int)))] [(VB.row (arrC .u8) 65 [((List.replicate (i' + 1) (0 : Int)) ++ suf)] .own)])) (by kernel_rfl) ?_
    unfold octTail at hK
    simp only [and7 u hb, m1, m2, w1, bt_dig _ (show u % 8 < 8 by omega), Int.toNat_natCast, set_rep]
    refine bcase_of (fun h => ?_) (fun h => ?_)
    · have h := of_decide_eq_true h
      rw [decide_eq_true (show 8 ≤ u by omega), cond_true] at hK
      exact need_of (decide_eq_true (by omega)) (need_of (by simp only [Bool.and_eq_true, decide_eq_true_eq]; omega) (need_of (Nat.ble_eq_true_of_le (by omega)) (ih hK)))
    · have h := of_decide_eq_false h
      rw [decide_eq_false (show ¬ 8 ≤ u by omega), cond_false] at hK
      have e : 65 - suf.length = i' + 1 := by omega
      rw [e] at hK
      exact hK
def fmtLp : LSpec
  | [(0, .slice none 0 0), (1, .int .u64 u), (3, .bool false), (4, .bool false), (10, .slice none 0 0), (11, .string e), (12, .pointer (some ⟨0, 0, some 0⟩)), (13, .int .i64 i), (14, .int .u64 sh), (15, .int .u64 b), (16, .int .u64 m)], H, K =>
    ∃ (n : Nat) (xs : List Int), (u = (n : Int) ∧ n < 2 ^ 63 ∧ e = ByteArray.mk #[] ∧ i = 65 ∧ sh = 3 ∧ b = 8 ∧ m = 7 ∧ xs = List.replicate 65 0 ∧ H = [.row (arrC .u8) 65 [xs] .own]) ∧
      ∀ (v : Nat) (suf : List Int), (v, suf) = octTail 20 n [] → K (.exit 0) [(0, .slice none 0 0), (1, .int .u64 (v : Int)), (3, .bool false), (4, .bool false), (10, .slice none 0 0), (11, .string (ByteArray.mk #[])), (12, .pointer (some ⟨0, 0, some 0⟩)), (13, .int .i64 ((65 - suf.length : Nat) : Int))] [.row (arrC .u8) 65 [List.replicate (65 - suf.length) 0 ++ suf] .own]
  | _, _, _ => False
theorem fmtLp_ok : CodeOk Tryz.prog Tryz.f106.ntmps (.loop (lp Tryz.f106 11)) fmtLp := by
  refine loop_ok (call := callOf [(118, pureS two8G), (119, pureS tz8G)]) (hint := hints 106) (tb := noTab) hm (callOf_cons two8_ok.spec (callOf_cons tz_ok.spec callOf_nil)) (by kernel_rfl) (by repeat' first | exact trivial | constructor |  (intro _ h; cases h)) fun fr H K h => ?_
  unfold fmtLp at h
  split at h
  · obtain ⟨n, xs, ⟨rfl, h1, rfl, rfl, rfl, rfl, rfl, rfl, rfl⟩, hK⟩ := h
    exact ⟨_, fmt_rounds K 20 n [] 65 h1 (by omega) (by simp) (by omega) (hK _ _ rfl)⟩
  · exact h.elim
def tab106 : Tab := ⟨fun | 11 => some fmtLp | _ => none, fun _ => none⟩
/-- A number's digits to the base 8. -/
def octD (n : Nat) : List UInt8 := (((48 + (octTail 20 n []).1 : Nat) : Int) :: (octTail 20 n []).2).map fun x => UInt8.ofNat x.toNat
def fmtG : Pure
  | [.slice none 0 0, .int .u64 u, .int .i64 b, .bool neg, .bool app] => some (b = 8 ∧ neg = false ∧ app = false ∧ 0 ≤ u ∧ u < 2 ^ 63, .tuple ⟨[.slice none 0 0, .string (ofL (octD u.toNat))]⟩)
  | _ => none
theorem fmt_ok : PureOk Tryz.prog 106 fmtG := by
  refine .of_run (call := callOf [(118, pureS two8G), (119, pureS tz8G)]) (hint := hints 106) (tb := tab106) hm (callOf_cons two8_ok.spec (callOf_cons tz_ok.spec callOf_nil)) Tryz.func106 (by kernel_rfl) rfl (by kernel_rfl) (by repeat' first | exact trivial | constructor | (intro _ h; cases h; exact fmtLp_ok) | (intro _ h; cases h)) fun args c r h => ?_
  unfold fmtG at h
  split at h
  · rename_i u b neg app
    cases h
    refine ⟨rfl, fun hs => ⟨rfl, 1, fun K hK => ?_⟩⟩
    have hK := hK []
    obtain ⟨rfl, rfl, rfl, h0, h1⟩ := hs
    refine toR (R := ((8 : Int) = (8 : Int)) ∧ (((IntKind.u64.wrap (8 : Int)) = (8 : Int)) ∧ (∃ (n : Nat), (∃ (xs : (List Int)), (((u = (↑n : Int)) ∧ ((n < 9223372036854775808) ∧ (((ByteArray.mk #[]) = (ByteArray.mk #[])) ∧ (((65 : Int) = (65 : Int)) ∧ (((IntKind.u64.wrap (3 : Int)) = (3 : Int)) ∧ (((IntKind.u64.wrap (8 : Int)) = (8 : Int)) ∧ (((IntKind.u64.wrap ((IntKind.u64.wrap (8 : Int)) - (1 : Int))) = (7 : Int)) ∧ ((xs = (List.replicate 65 (0 : Int))) ∧ ([(VB.row (arrC .u8) 65 [[(0 : Int), (0 : Int), (0 : Int), (0 : Int), (0 : Int), (0 : Int), (0 : Int), (0 : Int), (0 : Int), (0 : Int), (0 : Int), (0 : Int), (0 : Int), (0 : Int), (0 : Int), (0 : Int), (0 : Int), (0 : Int), (0 : Int), (0 : Int), (0 : Int), (0 : Int), (0 : Int), (0 : Int), (0 : Int), (0 : Int), (0 : Int), (0 : Int), (0 : Int), (0 : Int), (0 : Int), (0 : Int), (0 : Int), (0 : Int), (0 : Int), (0 : Int), (0 : Int), (0 : Int), (0 : Int), (0 : Int), (0 : Int), (0 : Int), (0 : Int), (0 : Int), (0 : Int), (0 : Int), (0 : Int), (0 : Int), (0 : Int), (0 : Int), (0 : Int), (0 : Int), (0 : Int), (0 : Int), (0 : Int), (0 : Int), (0 : Int), (0 : Int), (0 : Int), (0 : Int), (0 : Int), (0 : Int), (0 : Int), (0 : Int), (0 : Int)]] .own)] = [(VB.row (arrC .u8) 65 [xs] .own)]))))))))) ∧ (∀ (v : Nat) (suf : (List Int)), (((v, suf) = (octTail 20 n [])) → (need (decide ((↑v : Int) < (↑36 : Int))) (need ((decide ((0 : Int) ≤ (IntKind.i64.wrap ((↑(65 - suf.length) : Int) - (1 : Int))))) && (decide ((IntKind.i64.wrap ((↑(65 - suf.length) : Int) - (1 : Int))) < (↑65 : Int)))) (need ((decide (0 < 1)) && (((IntKind.i64.wrap ((↑(65 - suf.length) : Int) - (1 : Int))).toNat + 1).ble 65)) (need ((decide ((0 : Int) ≤ (IntKind.i64.wrap ((↑(65 - suf.length) : Int) - (1 : Int))))) && ((decide ((IntKind.i64.wrap ((↑(65 - suf.length) : Int) - (1 : Int))) ≤ (↑65 : Int))) && true)) (need ((decide (0 < 1)) && (((IntKind.i64.wrap ((↑(65 - suf.length) : Int) - (1 : Int))).toNat + (65 - (IntKind.i64.wrap ((↑(65 - suf.length) : Int) - (1 : Int))).toNat)).ble 65)) (K (.tuple (Array.mk [(.slice none 0 0), (.string (ByteArray.mk (Array.mk (List.map (fun (x : Int) => (UInt8.ofNat x.toNat)) (List.take (65 - (IntKind.i64.wrap ((↑(65 - suf.length) : Int) - (1 : Int))).toNat) (List.drop (IntKind.i64.wrap ((↑(65 - suf.length) : Int) - (1 : Int))).toNat ((arrC .u8).numsOf (List.set ((List.replicate (65 - suf.length) (0 : Int)) ++ suf) (IntKind.i64.wrap ((↑(65 - suf.length) : Int) - (1 : Int))).toNat (bt (ByteArray.mk #[48, 49, 50, 51, 52, 53, 54, 55, 56, 57, 97, 98, 99, 100, 101, 102, 103, 104, 105, 106, 107, 108, 109, 110, 111, 112, 113, 114, 115, 116, 117, 118, 119, 120, 121, 122]) (↑v : Int))))))))))])) []))))))))))))) (by kernel_rfl) ?_
    refine ⟨rfl, by decide, u.toNat, List.replicate 65 0, ⟨by omega, by omega, rfl, rfl, by decide, by decide, by decide, rfl, rfl⟩, fun v suf hv => ?_⟩
    have hl := octTail_len 20 u.toNat []
    have hlt := octTail_lt 20 u.toNat [] (by omega)
    have hd : octD u.toNat = (((48 + v : Nat) : Int) :: suf).map fun x => UInt8.ofNat x.toNat := by unfold octD; rw [← hv]
    rw [← hv] at hl hlt
    simp only [List.length_nil, Nat.add_zero] at hl hlt
    obtain ⟨i', hi'⟩ : ∃ i', 65 - suf.length = i' + 1 := ⟨64 - suf.length, by omega⟩
    have w1 : IntKind.i64.wrap (((i' + 1 : Nat) : Int) - 1) = (i' : Int) := by rw [wrap_id (by omega) (by omega)]; omega
    have hn : ∀ l : List Int, (arrC .u8).numsOf l = l := fun _ => rfl
    simp only [hi', w1, Int.toNat_natCast, bt_dig v hlt, set_rep, hn]
    have e1 : (List.replicate i' (0 : Int) ++ ((48 + v : Nat) : Int) :: suf).drop i' = ((48 + v : Nat) : Int) :: suf := by
      conv => lhs; arg 1; rw [← List.length_replicate (n := i') (a := (0 : Int))]
      exact List.drop_left
    have e2 : (((48 + v : Nat) : Int) :: suf).take (65 - i') = ((48 + v : Nat) : Int) :: suf := List.take_of_length_le (by simp; omega)
    rw [hd] at hK
    rw [e1, e2]
    exact need_of (decide_eq_true (by omega)) (need_of (by simp only [Bool.and_eq_true, decide_eq_true_eq]; omega) (need_of (by simp; omega) (need_of (by simp only [Bool.and_true, Bool.and_eq_true, decide_eq_true_eq]; omega) (need_of (by simp; omega) hK))))
  · cases h
def fmtIG : Pure
  | [.int .i64 n, .int .i64 b] => some (b = 8 ∧ 0 ≤ n ∧ n < 2 ^ 62, .string (ofL (octD n.toNat)))
  | _ => none
theorem fmtI_ok : PureOk Tryz.prog 92 fmtIG := by
  refine .of_run (call := callOf [(106, pureS fmtG)]) (hint := hints 92) (tb := noTab) hm (callOf_cons fmt_ok.spec callOf_nil) Tryz.func92 (by kernel_rfl) rfl (by kernel_rfl) (by repeat' first | exact trivial | constructor |  (intro _ h; cases h)) fun args c r h => ?_
  unfold fmtIG at h
  split at h
  · rename_i n b
    cases h
    refine ⟨rfl, fun hs => ⟨rfl, 1, fun K hK => ?_⟩⟩
    have hK := hK []
    obtain ⟨rfl, h0, h1⟩ := hs
    refine toR (R := (((8 : Int) = (8 : Int)) ∧ (((decide (n < (0 : Int))) = false) ∧ ((false = false) ∧ (((0 : Int) ≤ (IntKind.u64.wrap n)) ∧ ((IntKind.u64.wrap n) < ((2 : Int) ^ 63)))))) ∧ (K (.string (ofL (octD (IntKind.u64.wrap n).toNat))) [])) (by kernel_rfl) ?_
    have w : IntKind.u64.wrap n = n := wrap_u64 h0 (by omega)
    rw [w]
    exact ⟨⟨rfl, decide_eq_false (by omega), rfl, h0, by omega⟩, hK⟩
  · cases h
theorem formatInt_ok : PureOk Tryz.prog 78 fmtIG := by
  refine .of_run (call := callOf [(92, pureS fmtIG)]) (hint := hints 78) (tb := noTab) hm (callOf_cons fmtI_ok.spec callOf_nil) Tryz.func78 (by kernel_rfl) rfl (by kernel_rfl) (by repeat' first | exact trivial | constructor |  (intro _ h; cases h)) fun args c r h => ?_
  unfold fmtIG at h
  split at h
  · rename_i n b
    cases h
    refine ⟨rfl, fun hs => ⟨rfl, 1, fun K hK => ?_⟩⟩
    have hK := hK []
    refine toR (R := ((b = (8 : Int)) ∧ (((0 : Int) ≤ n) ∧ (n < ((2 : Int) ^ 62)))) ∧ (K (.string (ofL (octD n.toNat))) [])) (by kernel_rfl) ?_
    exact ⟨hs, hK⟩
  · cases h
def poctS (v n : Nat) : ByteArray := (ofL (List.replicate (n - 1 - (octD v).length) 48) ++ ofL (octD v)) ++ ⟨#[0]⟩
def poctG : Pure
  | [.int .i64 v, .int .i64 n] => some (0 ≤ v ∧ v < 2 ^ 62 ∧ 1 ≤ n ∧ n < 100, .string (poctS v.toNat n.toNat))
  | _ => none
theorem poct_ok : PureOk Tryz.prog 58 poctG := by
  refine .of_run (call := callOf [(78, pureS fmtIG), (42, pureS repeatG)]) (hint := hints 58) (tb := noTab) hm (callOf_cons formatInt_ok.spec (callOf_cons repeat_ok.spec callOf_nil)) Tryz.func58 (by kernel_rfl) rfl (by kernel_rfl) (by repeat' first | exact trivial | constructor |  (intro _ h; cases h)) fun args c r h => ?_
  unfold poctG at h
  split at h
  · rename_i v n
    cases h
    refine ⟨rfl, fun hs => ⟨rfl, 1, fun K hK => ?_⟩⟩
    have hK := hK []
    refine toR (R := (((8 : Int) = (8 : Int)) ∧ (((0 : Int) ≤ v) ∧ (v < ((2 : Int) ^ 62)))) ∧ (((1 = 1) ∧ (((0 : Int) ≤ (maxI (IntKind.i64.wrap ((IntKind.i64.wrap (n - (1 : Int))) - (↑(ofL (octD v.toNat)).size : Int))) (0 : Int))) ∧ ((maxI (IntKind.i64.wrap ((IntKind.i64.wrap (n - (1 : Int))) - (↑(ofL (octD v.toNat)).size : Int))) (0 : Int)) < ((2 : Int) ^ 40)))) ∧ (need (decide (((ofL (List.replicate (maxI (IntKind.i64.wrap ((IntKind.i64.wrap (n - (1 : Int))) - (↑(ofL (octD v.toNat)).size : Int))) (0 : Int)).toNat ((li (ByteArray.mk #[48])).getD 0 0))).size + (ofL (octD v.toNat)).size) < 9223372036854775808)) (need (decide ((((ofL (List.replicate (maxI (IntKind.i64.wrap ((IntKind.i64.wrap (n - (1 : Int))) - (↑(ofL (octD v.toNat)).size : Int))) (0 : Int)).toNat ((li (ByteArray.mk #[48])).getD 0 0))) ++ (ofL (octD v.toNat))).size + 1) < 9223372036854775808)) (K (.string (((ofL (List.replicate (maxI (IntKind.i64.wrap ((IntKind.i64.wrap (n - (1 : Int))) - (↑(ofL (octD v.toNat)).size : Int))) (0 : Int)).toNat ((li (ByteArray.mk #[48])).getD 0 0))) ++ (ofL (octD v.toNat))) ++ (ByteArray.mk #[0]))) []))))) (by kernel_rfl) ?_
    obtain ⟨h0, h1, h2, h3⟩ := hs
    have hl := octTail_len 20 v.toNat []
    have hz : (ofL (octD v.toNat)).size = (octD v.toNat).length := by rw [← li_size]
    have hd : (octD v.toNat).length ≤ 21 := by unfold octD; simp at hl ⊢; omega
    have e : (maxI (IntKind.i64.wrap (IntKind.i64.wrap (n - 1) - ((ofL (octD v.toNat)).size : Int))) 0).toNat = n.toNat - 1 - (octD v.toNat).length := by
      rw [hz, wrap_id (x := n - 1) (by omega) (by omega), wrap_id (by omega) (by omega)]
      unfold maxI
      split <;> omega
    have e0 : 0 ≤ maxI (IntKind.i64.wrap (IntKind.i64.wrap (n - 1) - ((ofL (octD v.toNat)).size : Int))) 0 ∧ maxI (IntKind.i64.wrap (IntKind.i64.wrap (n - 1) - ((ofL (octD v.toNat)).size : Int))) 0 < (2 : Int) ^ 40 := by
      rw [hz, wrap_id (x := n - 1) (by omega) (by omega), wrap_id (by omega) (by omega)]
      unfold maxI
      split <;> omega
    rw [e]
    have hr : (ofL (List.replicate (n.toNat - 1 - (octD v.toNat).length) ((li (ByteArray.mk #[48])).getD 0 0))).size = n.toNat - 1 - (octD v.toNat).length := by rw [← li_size]; simp
    refine ⟨⟨rfl, h0, h1⟩, ⟨rfl, e0⟩, need_of (decide_eq_true (by rw [hr, hz]; omega)) (need_of (decide_eq_true (by rw [ByteArray.size_append, hr, hz]; omega)) hK)⟩
  · cases h
/-- A number's digits, with room for so many. -/
def octN : Nat → Nat → List UInt8
  | 0, u => [UInt8.ofNat (48 + u)]
  | d + 1, u => bif decide (8 ≤ u) then octN d (u / 8) ++ [UInt8.ofNat (48 + u % 8)] else [UInt8.ofNat (48 + u)]
theorem octN_more : ∀ d u, u < 8 ^ (d + 1) → octN d u = octN (d + 1) u
  | 0, u, h => by
    unfold octN
    rw [decide_eq_false (show ¬ 8 ≤ u by simp at h; omega)]
    rfl
  | d + 1, u, h => by
    have ih := octN_more d (u / 8) (by rw [Nat.pow_succ] at h; omega)
    unfold octN
    rw [ih]
theorem octN_all (d e u : Nat) (h : u < 8 ^ (d + 1)) : octN d u = octN (d + e) u := by
  induction e with
  | zero => rfl
  | succ e ih =>
    rw [ih]
    exact octN_more (d + e) u (Nat.lt_of_lt_of_le h (Nat.pow_le_pow_right (by omega) (by omega)))
theorem octTail_N : ∀ d u (suf : List Int), u < 8 ^ (d + 1) → (((48 + (octTail d u suf).1 : Nat) : Int) :: (octTail d u suf).2).map (fun x => UInt8.ofNat x.toNat) = octN d u ++ suf.map fun x => UInt8.ofNat x.toNat
  | 0, u, suf, h => by
    unfold octTail octN
    simp only [List.map_cons, Int.toNat_natCast]
    rfl
  | d + 1, u, suf, h => by
    unfold octTail octN
    cases hc : decide (8 ≤ u) with
    | true =>
      simp only [cond_true]
      rw [octTail_N d (u / 8) _ (by rw [Nat.pow_succ] at h; omega), List.map_cons, Int.toNat_natCast, List.append_assoc]
      rfl
    | false =>
      simp only [cond_false, List.map_cons, Int.toNat_natCast]
      rfl
theorem octL_N : ∀ n u l, u < 8 ^ (n + 1) → octL (n + 1) u l = List.replicate (n + 1 - (octN n u).length) 48 ++ (octN n u ++ l)
  | 0, u, l, h => by
    have : u % 8 = u := by simp at h; omega
    simp [octL, octN, this]
  | n + 1, u, l, h => by
    have ih := octL_N n (u / 8) (UInt8.ofNat (48 + u % 8) :: l) (by rw [Nat.pow_succ] at h; omega)
    show octL (n + 1) (u / 8) (UInt8.ofNat (48 + u % 8) :: l) = _
    rw [ih, show octN (n + 1) u = bif decide (8 ≤ u) then octN n (u / 8) ++ [UInt8.ofNat (48 + u % 8)] else [UInt8.ofNat (48 + u)] from rfl]
    cases hc : decide (8 ≤ u) with
    | true =>
      simp only [cond_true, List.length_append, List.length_cons, List.length_nil, List.append_assoc]
      congr 2
      omega
    | false =>
      have hu := of_decide_eq_false hc
      have h0 : u / 8 = 0 := by omega
      have h1 : u % 8 = u := by omega
      rw [h0, h1]
      have hn : octN n 0 = [48] := by cases n <;> rfl
      simp only [cond_false]
      rw [hn]
      simp only [List.length_cons, List.length_nil]
      rw [show n + 1 + 1 - 1 = n + 1 - 1 + 1 by omega, List.replicate_succ']
      simp
theorem oct_same (v n : Nat) (hn : n ≤ 20) (h : v < 8 ^ (n + 1)) : poctS v (n + 2) = octS v (n + 2) := by
  unfold poctS octS
  have e1 : octD v = octN n v := by
    unfold octD
    rw [octTail_N 20 v [] (Nat.lt_of_lt_of_le h (Nat.pow_le_pow_right (by omega) (by omega))), List.map_nil, List.append_nil]
    have := octN_all n (20 - n) v h
    rw [this, show n + (20 - n) = 20 by omega]
  rw [show n + 2 - 1 = n + 1 by omega, octL_N n v [] h, e1, List.append_nil, ofL_append]
  rfl
end Go.Proofs.YtbgilaacfbinbaaGreatDoor.PM

namespace Go.Proofs.YtbgilaacfbinbaaGreatDoor.PM
open Go Go.Proofs Go.RowKit
set_option maxRecDepth 100000
set_option linter.unusedVariables false
set_option linter.unusedSimpArgs false

def oct2G : Pure
  | [.int .i64 v, .int .i64 n] => some (0 ≤ v ∧ v < 2 ^ 40 ∧ 2 ≤ n ∧ n ≤ 20 ∧ v.toNat < 8 ^ (n.toNat - 1), .string (octS v.toNat n.toNat))
  | _ => none
theorem oct2_ok : PureOk Tryz.prog 58 oct2G where
  enter := poct_ok.enter
  args args c r h := by
    unfold oct2G at h
    split at h
    · cases h; rfl
    · cases h
  meets args c r h hc := by
    unfold oct2G at h
    split at h
    · rename_i v n
      cases h
      obtain ⟨h0, h1, h2, h3, h4⟩ := hc
      have := poct_ok.meets [.int .i64 v, .int .i64 n] _ _ rfl ⟨h0, by omega, by omega, by omega⟩
      obtain ⟨k, hk⟩ : ∃ k, n.toNat = k + 2 := ⟨n.toNat - 2, by omega⟩
      have e : poctS v.toNat n.toNat = octS v.toNat n.toNat := by
        rw [hk]
        exact oct_same _ _ (by omega) (by rw [hk] at h4; exact h4)
      rw [e] at this
      exact this
    · cases h
theorem psum_split (s : ByteArray) : ∀ a b i n, psumFrom s (a + b) i n = psumFrom s b (i + a) (psumFrom s a i n)
  | 0, b, i, n => by simp [psumFrom]
  | a + 1, b, i, n => by
    rw [show a + 1 + b = (a + b) + 1 by omega]
    show psumFrom s (a + b) (i + 1) _ = psumFrom s b (i + (a + 1)) (psumFrom s a (i + 1) _)
    rw [psum_split s a b (i + 1), show i + 1 + a = i + (a + 1) by omega]
theorem sum_split (s : ByteArray) : ∀ a b i n, sumFrom s (a + b) i n = sumFrom s b (i + a) (sumFrom s a i n)
  | 0, b, i, n => by simp [sumFrom]
  | a + 1, b, i, n => by
    rw [show a + 1 + b = (a + b) + 1 by omega]
    show sumFrom s (a + b) (i + 1) _ = sumFrom s b (i + (a + 1)) (sumFrom s a (i + 1) _)
    rw [sum_split s a b (i + 1), show i + 1 + a = i + (a + 1) by omega]
theorem psum_add (s : ByteArray) : ∀ d i n c, psumFrom s d i (n + c) = psumFrom s d i n + c
  | 0, _, _, _ => rfl
  | d + 1, i, n, c => by
    unfold psumFrom
    cases decide (i < 148) || decide (155 < i)
    · exact psum_add s d (i + 1) n c
    · simp only [cond_true]
      rw [show n + c + bt s i = n + bt s i + c by omega]
      exact psum_add s d (i + 1) _ c
theorem psum_same (s : ByteArray) (h : s.size = 512) : psumS s = sumS s := by
  unfold psumS sumS
  rw [h, show 512 = 148 + (8 + 356) from rfl, psum_split, sum_split, psum_split, sum_split]
  have e1 : ∀ n, psumFrom s 8 (0 + 148) n = n := fun n => rfl
  have e2 : ∀ n, sumFrom s 8 (0 + 148) n = n + 256 := fun n => by
    show n + 32 + 32 + 32 + 32 + 32 + 32 + 32 + 32 = n + 256
    omega
  rw [e1, e2, psum_gap s 356 (0 + 148 + 8) _ (by omega), show (256 : Int) = 0 + 256 by omega, psum_add, psum_gap s 148 0 0 (by omega)]
  simp
/-- A head whose sum is not in it yet. -/
def fin3 (h : ByteArray) : ByteArray := ((h.extract 0 148 ++ octS (sumS h).toNat 7) ++ ⟨#[32]⟩) ++ h.extract 156 h.size
def headJ3 : LSpec
  | [(11, .string h)], [], K => h.size = 512 ∧ K .ret [(10, .string (fin3 h))] []
  | _, _, _ => False
set_option maxHeartbeats 1000000 in
theorem headJ3_ok : CodeOk Tryz.prog Tryz.f40.ntmps (jn Tryz.f40 3) headJ3 := by
  refine join_ok (call := callOf [(57, pureS textG), (58, pureS oct2G), (19, pureS zerosG), (49, pureS psumG)]) (hint := hints 40) (tb := noTab) hm (callOf_cons field_ok.spec (callOf_cons oct2_ok.spec (callOf_cons zeros_ok.spec (callOf_cons psum_ok.spec callOf_nil)))) (by kernel_rfl) (by repeat' first | exact trivial | constructor |  (intro _ h; cases h)) fun fr H K h => ?_
  unfold headJ3 at h
  split at h
  · rename_i h0
    obtain ⟨h1, hK⟩ := h
    refine ⟨1, ?_⟩
    refine toR (R := need (((decide ((148 : Int) ≤ (↑h0.size : Int))) && true) && true) (need ((((decide ((156 : Int) ≤ (↑h0.size : Int))) && (decide ((↑h0.size : Int) ≤ (↑h0.size : Int)))) && true) && true) ((h0.size < 1099511627776) ∧ ((((0 : Int) ≤ (psumS h0)) ∧ (((psumS h0) < ((2 : Int) ^ 40)) ∧ (((2 : Int) ≤ (7 : Int)) ∧ (((7 : Int) ≤ (20 : Int)) ∧ ((psumS h0).toNat < 262144))))) ∧ (need (((decide (((h0.extract 0 148).size + (octS (psumS h0).toNat 7).size) < 9223372036854775808)) && true) && true) (need (((decide ((((h0.extract 0 148) ++ (octS (psumS h0).toNat 7)).size + 1) < 9223372036854775808)) && true) && true) (need (((decide (((((h0.extract 0 148) ++ (octS (psumS h0).toNat 7)) ++ (ByteArray.mk #[32])).size + (h0.extract 156 (↑h0.size : Int).toNat).size) < 9223372036854775808)) && true) && true) (K .ret [(10, (.string ((((h0.extract 0 148) ++ (octS (psumS h0).toNat 7)) ++ (ByteArray.mk #[32])) ++ (h0.extract 156 (↑h0.size : Int).toNat))))] [])))))))) (by kernel_rfl) ?_
    rw [psum_same h0 h1]
    have hb : 0 ≤ sumS h0 ∧ sumS h0 ≤ 131072 := by
      have := sumFrom_le h0 512 0 0
      unfold sumS
      omega
    unfold fin3 at hK
    have e0 : h0.extract 156 h0.size = h0.extract 156 (h0.size : Int).toNat := rfl
    rw [e0] at hK
    have o7 : (octS (sumS h0).toNat 7).size = 7 := octS_size _ 7 (by omega)
    have x1 : (h0.extract 0 148).size ≤ 512 := by rw [ByteArray.size_extract]; omega
    have x2 : (h0.extract 156 (h0.size : Int).toNat).size ≤ 512 := by rw [ByteArray.size_extract]; omega
    have l1 : (ByteArray.mk #[32]).size = 1 := rfl
    generalize octS (sumS h0).toNat 7 = o at o7 hK ⊢
    generalize h0.extract 0 148 = a at x1 hK ⊢
    generalize h0.extract 156 (h0.size : Int).toNat = b at x2 hK ⊢
    generalize sumS h0 = n at hb hK ⊢
    have h7 : ((2 : Int) ≤ 7) ∧ ((7 : Int) ≤ 20) ∧ ((2 : Int) ^ 40 = 1099511627776) := by decide
    (repeat' first | with_reducible exact hK | with_reducible exact trivial | with_reducible refine need_of ?_ ?_ | with_reducible refine And.intro ?_ ?_ | with_reducible refine share_i ?_ ?_) <;> first | omega | (simp only [Bool.and_true, Bool.and_eq_true, decide_eq_true_eq, ByteArray.size_append]; omega)
  · exact h.elim
end Go.Proofs.YtbgilaacfbinbaaGreatDoor.PM

namespace Go.Proofs.YtbgilaacfbinbaaGreatDoor.PM
open Go Go.Proofs Go.RowKit
set_option maxRecDepth 100000
set_option linter.unusedVariables false
set_option linter.unusedSimpArgs false

theorem magic8 (x : ByteArray) : ((x ++ ⟨#[117, 115, 116, 97, 114]⟩) ++ zs 1) ++ ⟨#[48, 48]⟩ = x ++ ⟨#[117, 115, 116, 97, 114, 0, 48, 48]⟩ := by
  rw [ByteArray.append_assoc, ByteArray.append_assoc]
  exact congrArg (x ++ ·) (by decide)
theorem fin3_mid (a z b : ByteArray) (ha : a.size = 148) (hz : z.size = 8) : fin3 ((a ++ z) ++ b) = ((a ++ octS (sumS ((a ++ z) ++ b)).toNat 7) ++ ⟨#[32]⟩) ++ b := by
  have e1 : ((a ++ z) ++ b).extract 0 148 = a := by
    rw [ByteArray.append_assoc, ByteArray.extract_append_eq_left ha.symm]
  have e2 : ((a ++ z) ++ b).extract 156 ((a ++ z) ++ b).size = b := by
    refine ByteArray.extract_append_eq_right ?_ ?_ <;> simp only [ByteArray.size_append] <;> omega
  unfold fin3
  rw [e1, e2]
/-- A byte as a text. -/
def kindT (k : Int) : ByteArray := ⟨#[UInt8.ofNat k.toNat]⟩
theorem head_fin3 (name dest : ByteArray) (mode size : Nat) (k : Int) :
    fin3 (((((headA name mode size ++ zs 8) ++ kindT k) ++ textT dest 100) ++ ⟨#[117, 115, 116, 97, 114, 0, 48, 48]⟩) ++ zs 247) = headS name dest mode size (kindT k) := by
  have e : ((((headA name mode size ++ zs 8) ++ kindT k) ++ textT dest 100) ++ ⟨#[117, 115, 116, 97, 114, 0, 48, 48]⟩) ++ zs 247 = (headA name mode size ++ zs 8) ++ headB (kindT k) dest := by
    unfold headB
    rw [magic8]
    simp only [ByteArray.append_assoc]
  rw [e, fin3_mid _ _ _ (headA_size _ _ _) (zs_size 8)]
  rfl
def headJ2 : LSpec
  | [(11, .string h)], [], K => h.size = 265 ∧ K .ret [(10, .string (fin3 (h ++ zs 247)))] []
  | _, _, _ => False
def tab40a : Tab := ⟨fun _ => none, fun | 3 => some headJ3 | _ => none⟩
theorem headJ2_ok : CodeOk Tryz.prog Tryz.f40.ntmps (jn Tryz.f40 2) headJ2 := by
  refine join_ok (call := callOf [(57, pureS textG), (58, pureS oct2G), (19, pureS zerosG), (49, pureS psumG)]) (hint := hints 40) (tb := tab40a) hm (callOf_cons field_ok.spec (callOf_cons oct2_ok.spec (callOf_cons zeros_ok.spec (callOf_cons psum_ok.spec callOf_nil)))) (by kernel_rfl) (by repeat' first | exact trivial | constructor | (intro _ h; cases h; exact headJ3_ok) | (intro _ h; cases h)) fun fr H K h => ?_
  unfold headJ2 at h
  split at h
  · rename_i h0
    obtain ⟨h1, hK⟩ := h
    refine ⟨1, ?_⟩
    refine toR (R := (((0 : Int) ≤ (IntKind.i64.wrap ((512 : Int) - (↑h0.size : Int)))) ∧ ((IntKind.i64.wrap ((512 : Int) - (↑h0.size : Int))) < ((2 : Int) ^ 40))) ∧ (need (decide ((h0.size + (zs (IntKind.i64.wrap ((512 : Int) - (↑h0.size : Int))).toNat).size) < 9223372036854775808)) (((h0 ++ (zs (IntKind.i64.wrap ((512 : Int) - (↑h0.size : Int))).toNat)).size = 512) ∧ (K .ret [(10, (.string (fin3 (h0 ++ (zs (IntKind.i64.wrap ((512 : Int) - (↑h0.size : Int))).toNat)))))] [])))) (by kernel_rfl) ?_
    have z : (zs 247).size = 247 := zs_size 247
    simp only [h1, show IntKind.i64.wrap ((512 : Int) - ((265 : Nat) : Int)) = 247 from by decide, show (247 : Int).toNat = 247 from rfl, z, ByteArray.size_append]
    have h7 : ((247 : Int) < 2 ^ 40) := by decide
    (repeat' first | with_reducible exact hK | with_reducible exact trivial | with_reducible refine need_of ?_ ?_ | with_reducible refine And.intro ?_ ?_ | with_reducible refine share_i ?_ ?_) <;> first | omega | (simp only [Bool.and_true, Bool.and_eq_true, decide_eq_true_eq, ByteArray.size_append]; omega)
  · exact h.elim
def tab40 : Tab := ⟨fun _ => none, fun | 2 => some headJ2 | _ => none⟩
def pheadG : Pure
  | [.string name, .string dest, .int .i64 mode, .int .i64 size, .int .u8 kind] => some ((name.size < 2 ^ 40 ∧ dest.size < 2 ^ 40) ∧ 0 ≤ mode ∧ mode < 2 ^ 20 ∧ 0 ≤ size ∧ size < 2 ^ 32, .string (headS name dest mode.toNat size.toNat (kindT kind)))
  | _ => none
set_option maxHeartbeats 1000000 in
theorem phead_ok : PureOk Tryz.prog 40 pheadG := by
  refine .of_run (call := callOf [(57, pureS textG), (58, pureS oct2G), (19, pureS zerosG), (49, pureS psumG)]) (hint := hints 40) (tb := tab40) hm (callOf_cons field_ok.spec (callOf_cons oct2_ok.spec (callOf_cons zeros_ok.spec (callOf_cons psum_ok.spec callOf_nil)))) Tryz.func40 (by kernel_rfl) rfl (by kernel_rfl) (by repeat' first | exact trivial | constructor | (intro _ h; cases h; exact headJ2_ok) | (intro _ h; cases h)) fun args c r h => ?_
  unfold pheadG at h
  split at h
  · rename_i name dest mode size kind
    cases h
    refine ⟨rfl, fun hs => ⟨rfl, 1, fun K hK => ?_⟩⟩
    have hK := hK []
    refine toR (R := share (need (((decide ((((((((((textT name 100) ++ (octS mode.toNat 8)) ++ (octS 0 8)) ++ (octS 0 8)) ++ (octS size.toNat 12)) ++ (octS 0 12)) ++ (zs 8)) ++ (ByteArray.mk (Array.mk (List.map (fun (x : Int) => (UInt8.ofNat x.toNat)) (List.map (intC .u8).numOf (List.take 1 (List.drop 0 [kind]))))))).size + (textT dest 100).size) < 9223372036854775808)) && true) && true) (need (((decide (((((((((((textT name 100) ++ (octS mode.toNat 8)) ++ (octS 0 8)) ++ (octS 0 8)) ++ (octS size.toNat 12)) ++ (octS 0 12)) ++ (zs 8)) ++ (ByteArray.mk (Array.mk (List.map (fun (x : Int) => (UInt8.ofNat x.toNat)) (List.map (intC .u8).numOf (List.take 1 (List.drop 0 [kind]))))))) ++ (textT dest 100)).size + 8) < 9223372036854775808)) && true) && true) ((((((((((((textT name 100) ++ (octS mode.toNat 8)) ++ (octS 0 8)) ++ (octS 0 8)) ++ (octS size.toNat 12)) ++ (octS 0 12)) ++ (zs 8)) ++ (ByteArray.mk (Array.mk (List.map (fun (x : Int) => (UInt8.ofNat x.toNat)) (List.map (intC .u8).numOf (List.take 1 (List.drop 0 [kind]))))))) ++ (textT dest 100)) ++ (ByteArray.mk #[117, 115, 116, 97, 114, 0, 48, 48])).size = 265) ∧ (K (.string (fin3 (((((((((((textT name 100) ++ (octS mode.toNat 8)) ++ (octS 0 8)) ++ (octS 0 8)) ++ (octS size.toNat 12)) ++ (octS 0 12)) ++ (zs 8)) ++ (ByteArray.mk (Array.mk (List.map (fun (x : Int) => (UInt8.ofNat x.toNat)) (List.map (intC .u8).numOf (List.take 1 (List.drop 0 [kind]))))))) ++ (textT dest 100)) ++ (ByteArray.mk #[117, 115, 116, 97, 114, 0, 48, 48])) ++ (zs 247)))) [])))) fun p0 => share (need (((decide (((((((((textT name 100) ++ (octS mode.toNat 8)) ++ (octS 0 8)) ++ (octS 0 8)) ++ (octS size.toNat 12)) ++ (octS 0 12)) ++ (zs 8)).size + (ByteArray.mk (Array.mk (List.map (fun (x : Int) => (UInt8.ofNat x.toNat)) (List.map (intC .u8).numOf (List.take 1 (List.drop 0 [kind])))))).size) < 9223372036854775808)) && true) && true) ((((0 : Int) ≤ (100 : Int)) ∧ (((100 : Int) < ((2 : Int) ^ 40)) ∧ (dest.size < 1099511627776))) ∧ p0)) fun p1 => share (((((0 : Int) ≤ (100 : Int)) ∧ (((100 : Int) < ((2 : Int) ^ 40)) ∧ (dest.size < 1099511627776))) ∧ (need (((decide (((((((((textT name 100) ++ (octS mode.toNat 8)) ++ (octS 0 8)) ++ (octS 0 8)) ++ (octS size.toNat 12)) ++ (octS 0 12)) ++ (zs 8)).size + (ByteArray.mk (Array.mk (List.map (fun (x : Int) => (UInt8.ofNat x.toNat)) (List.map (intC .u8).numOf (List.take 1 (List.drop 0 [kind])))))).size) < 9223372036854775808)) && true) && true) p0)) ∧ True) fun p2 => share (p1 ∧ p2) fun p3 => share ((((0 : Int) ≤ (8 : Int)) ∧ ((8 : Int) < ((2 : Int) ^ 40))) ∧ (need (((decide ((((((((textT name 100) ++ (octS mode.toNat 8)) ++ (octS 0 8)) ++ (octS 0 8)) ++ (octS size.toNat 12)) ++ (octS 0 12)).size + 8) < 9223372036854775808)) && true) && true) p1)) fun p4 => share (((((0 : Int) ≤ (8 : Int)) ∧ ((8 : Int) < ((2 : Int) ^ 40))) ∧ (need (((decide ((((((((textT name 100) ++ (octS mode.toNat 8)) ++ (octS 0 8)) ++ (octS 0 8)) ++ (octS size.toNat 12)) ++ (octS 0 12)).size + 8) < 9223372036854775808)) && true) && true) p3)) ∧ (p4 ∧ True)) fun p5 => share ((((0 : Int) ≤ (0 : Int)) ∧ (((0 : Int) < ((2 : Int) ^ 40)) ∧ (((2 : Int) ≤ (12 : Int)) ∧ (((12 : Int) ≤ (20 : Int)) ∧ (0 < 8589934592))))) ∧ (need (((decide (((((((textT name 100) ++ (octS mode.toNat 8)) ++ (octS 0 8)) ++ (octS 0 8)) ++ (octS size.toNat 12)).size + 12) < 9223372036854775808)) && true) && true) p4)) fun p6 => share (((((0 : Int) ≤ (0 : Int)) ∧ (((0 : Int) < ((2 : Int) ^ 40)) ∧ (((2 : Int) ≤ (12 : Int)) ∧ (((12 : Int) ≤ (20 : Int)) ∧ (0 < 8589934592))))) ∧ (need (((decide (((((((textT name 100) ++ (octS mode.toNat 8)) ++ (octS 0 8)) ++ (octS 0 8)) ++ (octS size.toNat 12)).size + 12) < 9223372036854775808)) && true) && true) p5)) ∧ (p6 ∧ True)) fun p7 => share ((((0 : Int) ≤ size) ∧ ((size < ((2 : Int) ^ 40)) ∧ (((2 : Int) ≤ (12 : Int)) ∧ (((12 : Int) ≤ (20 : Int)) ∧ (size.toNat < 8589934592))))) ∧ (need (((decide ((((((textT name 100) ++ (octS mode.toNat 8)) ++ (octS 0 8)) ++ (octS 0 8)).size + (octS size.toNat 12).size) < 9223372036854775808)) && true) && true) p6)) fun p8 => share (((((0 : Int) ≤ size) ∧ ((size < ((2 : Int) ^ 40)) ∧ (((2 : Int) ≤ (12 : Int)) ∧ (((12 : Int) ≤ (20 : Int)) ∧ (size.toNat < 8589934592))))) ∧ (need (((decide ((((((textT name 100) ++ (octS mode.toNat 8)) ++ (octS 0 8)) ++ (octS 0 8)).size + (octS size.toNat 12).size) < 9223372036854775808)) && true) && true) p7)) ∧ (p8 ∧ True)) fun p9 => share ((((0 : Int) ≤ (0 : Int)) ∧ (((0 : Int) < ((2 : Int) ^ 40)) ∧ (((2 : Int) ≤ (8 : Int)) ∧ (((8 : Int) ≤ (20 : Int)) ∧ (0 < 2097152))))) ∧ (need (((decide (((((textT name 100) ++ (octS mode.toNat 8)) ++ (octS 0 8)).size + 8) < 9223372036854775808)) && true) && true) p8)) fun p10 => share (((((0 : Int) ≤ (0 : Int)) ∧ (((0 : Int) < ((2 : Int) ^ 40)) ∧ (((2 : Int) ≤ (8 : Int)) ∧ (((8 : Int) ≤ (20 : Int)) ∧ (0 < 2097152))))) ∧ (need (((decide (((((textT name 100) ++ (octS mode.toNat 8)) ++ (octS 0 8)).size + 8) < 9223372036854775808)) && true) && true) p9)) ∧ (p10 ∧ True)) fun p11 => share ((((0 : Int) ≤ (0 : Int)) ∧ (((0 : Int) < ((2 : Int) ^ 40)) ∧ (((2 : Int) ≤ (8 : Int)) ∧ (((8 : Int) ≤ (20 : Int)) ∧ (0 < 2097152))))) ∧ (need (((decide ((((textT name 100) ++ (octS mode.toNat 8)).size + 8) < 9223372036854775808)) && true) && true) p10)) fun p12 => share (((((0 : Int) ≤ (0 : Int)) ∧ (((0 : Int) < ((2 : Int) ^ 40)) ∧ (((2 : Int) ≤ (8 : Int)) ∧ (((8 : Int) ≤ (20 : Int)) ∧ (0 < 2097152))))) ∧ (need (((decide ((((textT name 100) ++ (octS mode.toNat 8)).size + 8) < 9223372036854775808)) && true) && true) p11)) ∧ (p12 ∧ True)) fun p13 => share ((((0 : Int) ≤ mode) ∧ ((mode < ((2 : Int) ^ 40)) ∧ (((2 : Int) ≤ (8 : Int)) ∧ (((8 : Int) ≤ (20 : Int)) ∧ (mode.toNat < 2097152))))) ∧ (need (((decide (((textT name 100).size + (octS mode.toNat 8).size) < 9223372036854775808)) && true) && true) p12)) fun p14 => share (((((0 : Int) ≤ mode) ∧ ((mode < ((2 : Int) ^ 40)) ∧ (((2 : Int) ≤ (8 : Int)) ∧ (((8 : Int) ≤ (20 : Int)) ∧ (mode.toNat < 2097152))))) ∧ (need (((decide (((textT name 100).size + (octS mode.toNat 8).size) < 9223372036854775808)) && true) && true) p13)) ∧ (p14 ∧ True)) fun p15 => ((((0 : Int) ≤ (100 : Int)) ∧ (((100 : Int) < ((2 : Int) ^ 40)) ∧ (name.size < 1099511627776))) ∧ (((((0 : Int) ≤ mode) ∧ ((mode < ((2 : Int) ^ 40)) ∧ (((2 : Int) ≤ (8 : Int)) ∧ (((8 : Int) ≤ (20 : Int)) ∧ (mode.toNat < 2097152))))) ∧ (need (((decide (((textT name 100).size + (octS mode.toNat 8).size) < 9223372036854775808)) && true) && true) (((((0 : Int) ≤ (0 : Int)) ∧ (((0 : Int) < ((2 : Int) ^ 40)) ∧ (((2 : Int) ≤ (8 : Int)) ∧ (((8 : Int) ≤ (20 : Int)) ∧ (0 < 2097152))))) ∧ (need (((decide ((((textT name 100) ++ (octS mode.toNat 8)).size + 8) < 9223372036854775808)) && true) && true) (((((0 : Int) ≤ (0 : Int)) ∧ (((0 : Int) < ((2 : Int) ^ 40)) ∧ (((2 : Int) ≤ (8 : Int)) ∧ (((8 : Int) ≤ (20 : Int)) ∧ (0 < 2097152))))) ∧ (need (((decide (((((textT name 100) ++ (octS mode.toNat 8)) ++ (octS 0 8)).size + 8) < 9223372036854775808)) && true) && true) (((((0 : Int) ≤ size) ∧ ((size < ((2 : Int) ^ 40)) ∧ (((2 : Int) ≤ (12 : Int)) ∧ (((12 : Int) ≤ (20 : Int)) ∧ (size.toNat < 8589934592))))) ∧ (need (((decide ((((((textT name 100) ++ (octS mode.toNat 8)) ++ (octS 0 8)) ++ (octS 0 8)).size + (octS size.toNat 12).size) < 9223372036854775808)) && true) && true) (((((0 : Int) ≤ (0 : Int)) ∧ (((0 : Int) < ((2 : Int) ^ 40)) ∧ (((2 : Int) ≤ (12 : Int)) ∧ (((12 : Int) ≤ (20 : Int)) ∧ (0 < 8589934592))))) ∧ (need (((decide (((((((textT name 100) ++ (octS mode.toNat 8)) ++ (octS 0 8)) ++ (octS 0 8)) ++ (octS size.toNat 12)).size + 12) < 9223372036854775808)) && true) && true) (((((0 : Int) ≤ (8 : Int)) ∧ ((8 : Int) < ((2 : Int) ^ 40))) ∧ (need (((decide ((((((((textT name 100) ++ (octS mode.toNat 8)) ++ (octS 0 8)) ++ (octS 0 8)) ++ (octS size.toNat 12)) ++ (octS 0 12)).size + 8) < 9223372036854775808)) && true) && true) (p3 ∧ p2))) ∧ (p5 ∧ True)))) ∧ (p7 ∧ True)))) ∧ (p9 ∧ True)))) ∧ (p11 ∧ True)))) ∧ (p13 ∧ True)))) ∧ (p15 ∧ True))) ∧ ((((((0 : Int) ≤ (100 : Int)) ∧ (((100 : Int) < ((2 : Int) ^ 40)) ∧ (name.size < 1099511627776))) ∧ p15) ∧ (((((0 : Int) ≤ (100 : Int)) ∧ (((100 : Int) < ((2 : Int) ^ 40)) ∧ (name.size < 1099511627776))) ∧ p14) ∧ True)) ∧ True)) (by kernel_rfl) ?_ --share
    have ek : (ByteArray.mk (Array.mk (List.map (fun (x : Int) => (UInt8.ofNat x.toNat)) (List.map (intC .u8).numOf (List.take 1 (List.drop 0 [kind])))))) = kindT kind := rfl
    rw [ek]
    have hh := head_fin3 name dest mode.toNat size.toNat kind
    unfold headA at hh
    rw [hh]
    obtain ⟨⟨n1, n2⟩, m1, m2, z1, z2⟩ := hs
    have o8 : ∀ v, (octS v 8).size = 8 := fun v => octS_size v 8 (by omega)
    have o12 : ∀ v, (octS v 12).size = 12 := fun v => octS_size v 12 (by omega)
    have l8 : (ByteArray.mk #[117, 115, 116, 97, 114, 0, 48, 48]).size = 8 := rfl
    have x0 := o8 0
    have x1 := o8 mode.toNat
    have x2 := o12 0
    have x3 := o12 size.toNat
    have x4 := textT_size name 100
    have x5 := textT_size dest 100
    have x6 := zs_size 8
    have x7 : (kindT kind).size = 1 := rfl
    have h7 : ((2 : Int) ^ 40 = 1099511627776) := by decide
    generalize octS 0 8 = a0 at x0 ⊢
    generalize octS mode.toNat 8 = a1 at x1 ⊢
    generalize octS 0 12 = a2 at x2 ⊢
    generalize octS size.toNat 12 = a3 at x3 ⊢
    generalize textT name 100 = a4 at x4 ⊢
    generalize textT dest 100 = a5 at x5 ⊢
    generalize zs 8 = a6 at x6 ⊢
    generalize kindT kind = a7 at x7 hK ⊢
    (repeat' first | with_reducible exact hK | with_reducible exact trivial | with_reducible refine need_of ?_ ?_ | with_reducible refine And.intro ?_ ?_ | with_reducible refine share_i ?_ ?_) <;> first | omega | (simp only [Bool.and_true, Bool.and_eq_true, decide_eq_true_eq, ByteArray.size_append]; omega)
  · cases h
end Go.Proofs.YtbgilaacfbinbaaGreatDoor.PM

namespace Go.Proofs.YtbgilaacfbinbaaGreatDoor.PM
open Go Go.Proofs Go.RowKit
set_option maxRecDepth 100000
set_option linter.unusedVariables false
set_option linter.unusedSimpArgs false

theorem tab10 {w : World} (hw : Wd w) : Lib.TabIs Tryz.prog w "internal/strconv.uint64pow10" .u64 Lib.pow10Tab := by
  obtain ⟨T, fz, h⟩ := hw 6 glob6 rfl
  unfold Lib.TabIs World.var?
  rw [show Tryz.prog.globalNamed "internal/strconv.uint64pow10" = some 6 by kernel_rfl]
  simp only [Option.bind_some]
  rw [h]
  rfl
theorem below_gd (w : World) (k : Nat) (os : Array Obj) : Below w.heap.size w (Go.Sort.grow (w.drewN k) os) :=
  ⟨rfl, rfl, rfl, by simp [Go.Sort.grow], fun b hb => by
    show (w.heap ++ os)[b]? = _
    rw [Array.getElem?_append_left hb]⟩
def itoaG : Pure
  | [.int .i64 n] => some (0 ≤ n ∧ n < 2 ^ 63, .string (ofL (Lib.decDigits n.toNat)))
  | _ => none
theorem itoa_ok : PureOk Tryz.prog 56 itoaG :=
  .of_shelf Tryz.func56 rfl rfl fun args c r hg => by
    unfold itoaG at hg
    split at hg
    · rename_i n
      cases hg
      refine ⟨rfl, fun hs => ⟨rfl, fun w hw => ?_⟩⟩
      refine (Tryz.strconv_Itoa n (by omega) (by omega) w (tab10 hw)).mono fun e w' ⟨he, k, os, hb⟩ => ⟨?_, by rw [hb]; exact below_gd w k os⟩
      rw [he]
      unfold Lib.itoa
      rw [if_neg (by omega)]
    · cases hg
theorem dec1 {n : Nat} (h : n < 10) : (Lib.decDigits n).length = 1 := by rw [Lib.decDigits_one h]; rfl
theorem decD {n : Nat} (h : 10 ≤ n) : (Lib.decDigits n).length = (Lib.decDigits (n / 10)).length + 1 := by
  rw [Lib.decDigits, dif_neg (by omega)]
  simp
theorem dec2 {n : Nat} (h : 10 ≤ n) (h' : n < 100) : (Lib.decDigits n).length = 2 := by rw [decD h, dec1 (by omega)]
theorem dec3 {n : Nat} (h : 100 ≤ n) (h' : n < 1000) : (Lib.decDigits n).length = 3 := by rw [decD (by omega), dec2 (by omega) (by omega)]
/-- A record's length, of its parts' length. -/
def recN (m : Nat) : Nat := if m ≤ 5 then m + 4 else if m ≤ 94 then m + 5 else m + 6
theorem recN_hit {m : Nat} (h : m ≤ 900) : (Lib.decDigits (recN m)).length + m + 3 = recN m := by
  unfold recN
  split
  · rw [dec1 (by omega)]; omega
  split
  · rw [dec2 (by omega) (by omega)]; omega
  · rw [dec3 (by omega) (by omega)]; omega
theorem recN_first {m j : Nat} (hj : j < recN m) (h : m ≤ 900) : (Lib.decDigits j).length + m + 3 ≠ j := by
  unfold recN at hj
  intro e
  by_cases h1 : j < 10
  · rw [dec1 h1] at e
    split at hj <;> first | omega | (split at hj <;> omega)
  by_cases h2 : j < 100
  · rw [dec2 (by omega) h2] at e
    split at hj <;> first | omega | (split at hj <;> omega)
  · have : j < 1000 := by split at hj <;> first | omega | (split at hj <;> omega)
    rw [dec3 (by omega) this] at e
    split at hj <;> first | omega | (split at hj <;> omega)
theorem recFrom_at (key value : ByteArray) (h : key.size + value.size ≤ 900) : ∀ d n, n + d = 1000 → n ≤ recN (key.size + value.size) → recFrom key value d n = recT key value (recN (key.size + value.size))
  | 0, n, hd, hn => by
    unfold recN at hn
    split at hn <;> first | omega | (split at hn <;> omega)
  | d + 1, n, hd, hn => by
    have hz := recT_size key value n
    show (bif ((recT key value n).size : Int) == (n : Int) then recT key value n else recFrom key value d (n + 1)) = _
    by_cases e : n = recN (key.size + value.size)
    · have hh := recN_hit h
      rw [← e] at hh ⊢
      rw [show (((recT key value n).size : Int) == (n : Int)) = true from beq_iff_eq.2 (by omega)]
      rfl
    · have hf := recN_first (m := key.size + value.size) (j := n) (by omega) h
      rw [show (((recT key value n).size : Int) == (n : Int)) = false from beq_eq_false_iff_ne.2 (by omega)]
      exact recFrom_at key value h d (n + 1) (by omega) (by omega)
theorem recS_eq (key value : ByteArray) (h : key.size + value.size ≤ 900) : recS key value = recT key value (recN (key.size + value.size)) :=
  recFrom_at key value h 1000 0 rfl (by omega)
def precLp : LSpec
  | [(0, .string key), (1, .string value), (5, .int .i64 n), (6, .int .i64 i)], [], K => (i = n ∧ n = ((key.size + value.size + 3 : Nat) : Int) ∧ key.size + value.size ≤ 900) ∧ ∀ r : ByteArray, r = recS key value → K .ret [(4, .string r)] []
  | _, _, _ => False
theorem prec_rounds (key value : ByteArray) (m : Nat) (hm' : m = key.size + value.size) (hm900 : m ≤ 900) (r : ByteArray) (hr : r = recS key value) (K : Kont) (hK : K .ret [(4, .string r)] []) : ∀ (d i : Nat), i + d = recN m →
    rnds Tryz.prog (callOf [(56, pureS itoaG)]) (hints 39) noTab (d + 1) (lp Tryz.f39 4) [(0, .string key), (1, .string value), (5, .int .i64 ((m + 3 : Nat) : Int)), (6, .int .i64 (i : Int))] [] K
  | 0, i, hi => by
    refine toR (R := (((0 : Int) ≤ (↑i : Int)) ∧ ((↑i : Int) < ((2 : Int) ^ 63))) ∧ (bcase ((↑i : Int) == (IntKind.i64.wrap ((↑(m + 3) : Int) + (↑(ofL (Lib.decDigits (↑i : Int).toNat)).size : Int)))) (need (decide (((ofL (Lib.decDigits (↑i : Int).toNat)).size + 1) < 9223372036854775808)) (need (decide ((((ofL (Lib.decDigits (↑i : Int).toNat)) ++ (ByteArray.mk #[32])).size + key.size) < 9223372036854775808)) (need (decide (((((ofL (Lib.decDigits (↑i : Int).toNat)) ++ (ByteArray.mk #[32])) ++ key).size + 1) < 9223372036854775808)) (need (decide ((((((ofL (Lib.decDigits (↑i : Int).toNat)) ++ (ByteArray.mk #[32])) ++ key) ++ (ByteArray.mk #[61])).size + value.size) < 9223372036854775808)) (need (decide (((((((ofL (Lib.decDigits (↑i : Int).toNat)) ++ (ByteArray.mk #[32])) ++ key) ++ (ByteArray.mk #[61])) ++ value).size + 1) < 9223372036854775808)) (K .ret [(4, (.string ((((((ofL (Lib.decDigits (↑i : Int).toNat)) ++ (ByteArray.mk #[32])) ++ key) ++ (ByteArray.mk #[61])) ++ value) ++ (ByteArray.mk #[10]))))] [])))))) (rnds Tryz.prog (callOf [(56, (pureS itoaG))]) (hints 39) noTab (nat_lit 0) (lp Tryz.f39 4) [(0, (.string key)), (1, (.string value)), (5, (.int .i64 (↑(m + 3) : Int))), (6, (.int .i64 (IntKind.i64.wrap ((↑i : Int) + (1 : Int)))))] [] K))) (by kernel_rfl) ?_
    have hh := recN_hit hm900
    rw [← hi] at hh
    simp only [Nat.add_zero] at hh
    have z1 : (ofL (Lib.decDigits (i : Int).toNat)).size = (Lib.decDigits i).length := by rw [← li_size, li_ofL, Int.toNat_natCast]
    have hb := dec_len i
    have hN : recN m ≤ 906 := by unfold recN; split <;> first | omega | (split <;> omega)
    have s1 : (ByteArray.mk #[32]).size = 1 := rfl
    have s2 : (ByteArray.mk #[61]).size = 1 := rfl
    have s3 : (ByteArray.mk #[10]).size = 1 := rfl
    refine ⟨⟨by omega, by omega⟩, bcase_t (beq_iff_eq.2 ?_) ?_⟩
    · rw [wrap_id (by omega) (by omega)]
      omega
    have er : r = recT key value i := by
      rw [hr, recS_eq key value (by omega), ← hm', ← hi, Nat.add_zero]
    rw [er] at hK
    have hK : K .ret [(4, .string ((((((ofL (Lib.decDigits (i : Int).toNat) ++ ⟨#[32]⟩) ++ key) ++ ⟨#[61]⟩) ++ value) ++ ⟨#[10]⟩)))] [] := hK
    generalize ofL (Lib.decDigits (i : Int).toNat) = o at z1 hK ⊢
    (repeat' first | with_reducible exact hK | with_reducible exact trivial | with_reducible refine need_of ?_ ?_ | with_reducible refine And.intro ?_ ?_ | with_reducible refine share_i ?_ ?_) <;> first | omega | (simp only [Bool.and_true, Bool.and_eq_true, decide_eq_true_eq, ByteArray.size_append]; omega)
  | d + 1, i, hi => by
    have ih := prec_rounds key value m hm' hm900 r hr K hK d (i + 1) (by omega)
    obtain ⟨kk, hkk⟩ : ∃ kk, kk = d + 1 := ⟨_, rfl⟩; rw [← hkk] at ih ⊢
    refine toR (R := (((0 : Int) ≤ (↑i : Int)) ∧ ((↑i : Int) < ((2 : Int) ^ 63))) ∧ (bcase ((↑i : Int) == (IntKind.i64.wrap ((↑(m + 3) : Int) + (↑(ofL (Lib.decDigits (↑i : Int).toNat)).size : Int)))) (need (decide (((ofL (Lib.decDigits (↑i : Int).toNat)).size + 1) < 9223372036854775808)) (need (decide ((((ofL (Lib.decDigits (↑i : Int).toNat)) ++ (ByteArray.mk #[32])).size + key.size) < 9223372036854775808)) (need (decide (((((ofL (Lib.decDigits (↑i : Int).toNat)) ++ (ByteArray.mk #[32])) ++ key).size + 1) < 9223372036854775808)) (need (decide ((((((ofL (Lib.decDigits (↑i : Int).toNat)) ++ (ByteArray.mk #[32])) ++ key) ++ (ByteArray.mk #[61])).size + value.size) < 9223372036854775808)) (need (decide (((((((ofL (Lib.decDigits (↑i : Int).toNat)) ++ (ByteArray.mk #[32])) ++ key) ++ (ByteArray.mk #[61])) ++ value).size + 1) < 9223372036854775808)) (K .ret [(4, (.string ((((((ofL (Lib.decDigits (↑i : Int).toNat)) ++ (ByteArray.mk #[32])) ++ key) ++ (ByteArray.mk #[61])) ++ value) ++ (ByteArray.mk #[10]))))] [])))))) (rnds Tryz.prog (callOf [(56, (pureS itoaG))]) (hints 39) noTab kk (lp Tryz.f39 4) [(0, (.string key)), (1, (.string value)), (5, (.int .i64 (↑(m + 3) : Int))), (6, (.int .i64 (IntKind.i64.wrap ((↑i : Int) + (1 : Int)))))] [] K))) (by kernel_rfl) ?_
    have hf := recN_first (m := m) (j := i) (by omega) hm900
    have z1 : (ofL (Lib.decDigits i)).size = (Lib.decDigits i).length := by rw [← li_size, li_ofL]
    have hb := dec_len i
    have hN : recN m ≤ 906 := by unfold recN; split <;> first | omega | (split <;> omega)
    have w0 : IntKind.i64.wrap ((i : Int) + 1) = ((i + 1 : Nat) : Int) := wrap_id (by omega) (by omega)
    have z1 : (ofL (Lib.decDigits (i : Int).toNat)).size = (Lib.decDigits i).length := z1
    refine ⟨⟨by omega, by omega⟩, bcase_f (beq_eq_false_iff_ne.2 ?_) ?_⟩
    · rw [wrap_id (by omega) (by omega)]
      omega
    rw [w0]
    exact ih
theorem precLp_ok : CodeOk Tryz.prog Tryz.f39.ntmps (.loop (lp Tryz.f39 4)) precLp := by
  refine loop_ok (call := callOf [(56, pureS itoaG)]) (hint := hints 39) (tb := noTab) hm (callOf_cons itoa_ok.spec callOf_nil) (by kernel_rfl) (by repeat' first | exact trivial | constructor |  (intro _ h; cases h)) fun fr H K h => ?_
  unfold precLp at h
  split at h
  · rename_i key value n i
    obtain ⟨⟨rfl, rfl, h2⟩, hK⟩ := h
    have hN : key.size + value.size + 3 ≤ recN (key.size + value.size) := by unfold recN; split <;> first | omega | (split <;> omega)
    exact ⟨_, prec_rounds key value _ rfl h2 _ rfl K (hK _ rfl) (recN (key.size + value.size) - (key.size + value.size + 3)) (key.size + value.size + 3) (by omega)⟩
  · exact h.elim
def tab39 : Tab := ⟨fun | 4 => some precLp | _ => none, fun _ => none⟩
def precG : Pure
  | [.string key, .string value] => some (key.size + value.size ≤ 900, .string (recS key value))
  | _ => none
theorem prec_ok : PureOk Tryz.prog 39 precG := by
  refine .of_run (call := callOf [(56, pureS itoaG)]) (hint := hints 39) (tb := tab39) hm (callOf_cons itoa_ok.spec callOf_nil) Tryz.func39 (by kernel_rfl) rfl (by kernel_rfl) (by repeat' first | exact trivial | constructor | (intro _ h; cases h; exact precLp_ok) | (intro _ h; cases h)) fun args c r h => ?_
  unfold precG at h
  split at h
  · rename_i key value
    cases h
    refine ⟨rfl, fun hs => ⟨rfl, 1, fun K hK => ?_⟩⟩
    have hK := hK []
    refine toR (R := (((IntKind.i64.wrap ((IntKind.i64.wrap ((↑key.size : Int) + (↑value.size : Int))) + (3 : Int))) = (IntKind.i64.wrap ((IntKind.i64.wrap ((↑key.size : Int) + (↑value.size : Int))) + (3 : Int)))) ∧ (((IntKind.i64.wrap ((IntKind.i64.wrap ((↑key.size : Int) + (↑value.size : Int))) + (3 : Int))) = (↑((key.size + value.size) + 3) : Int)) ∧ ((key.size + value.size) ≤ 900))) ∧ (∀ (r : ByteArray), ((r = (recS key value)) → (K (.string r) [])))) (by kernel_rfl) ?_
    have w1 : IntKind.i64.wrap ((key.size : Int) + (value.size : Int)) = ((key.size + value.size : Nat) : Int) := wrap_id (by omega) (by omega)
    have w2 : IntKind.i64.wrap (((key.size + value.size : Nat) : Int) + 3) = ((key.size + value.size + 3 : Nat) : Int) := wrap_id (by omega) (by omega)
    rw [w1, w2]
    exact ⟨⟨rfl, rfl, hs⟩, fun r hr => by rw [hr]; exact hK⟩
  · cases h
end Go.Proofs.YtbgilaacfbinbaaGreatDoor.PM

namespace Go.Proofs.YtbgilaacfbinbaaGreatDoor.PM
open Go Go.Proofs Go.RowKit
set_option maxRecDepth 100000
set_option linter.unusedVariables false
set_option linter.unusedSimpArgs false

/-- Not by 'rfl' of the kind that 'simp' hands to the kernel as a comparison of the whole: the kernel would unfold the heavy side. -/
theorem cnd_t {α : Type} (x y : α) : (bif true then x else y) = x := Eq.trans rfl rfl
theorem cnd_f {α : Type} (x y : α) : (bif false then x else y) = y := Eq.trans rfl rfl
theorem ib_neg : ∀ l : List UInt8, decide (Lib.indexByte l 0 < 0) = !(l.contains 0)
  | [] => rfl
  | b :: l => by
    have ih := ib_neg l
    have hg := Lib.indexByte_ge l 0
    unfold Lib.indexByte
    rw [List.contains_cons]
    by_cases h : b = 0
    · subst h
      rfl
    · have h1 : (b == 0) = false := beq_eq_false_iff_ne.2 h
      have h2 : (0 == b) = false := beq_eq_false_iff_ne.2 fun e => h e.symm
      rw [h1, h2, Bool.false_or, ← ih]
      by_cases h3 : Lib.indexByte l 0 = -1
      · rw [h3]; rfl
      · rw [if_neg (by simp), if_neg (by simpa using h3)]
        refine decide_eq_decide.2 ?_
        omega
theorem noZero_eq (s : ByteArray) : ∀ d i b, i + d = s.size → noZero s d i b = (b && !(((li s).drop i).contains 0))
  | 0, i, b, h => by
    rw [List.drop_of_length_le (by rw [li_size]; omega)]
    simp [noZero]
  | d + 1, i, b, h => by
    have hl : i < (li s).length := by rw [li_size]; omega
    unfold noZero
    rw [noZero_eq s d (i + 1) _ (by omega), List.drop_eq_getElem_cons hl, List.contains_cons]
    have e : (bt s (i : Int) != 0) = !(0 == (li s)[i]) := by
      show (((((s.data.toList.getD i 0).toNat : Nat) : Int)) != 0) = _
      have e1 : s.data.toList.getD i 0 = (li s)[i] := by
        rw [List.getD_eq_getElem?_getD]
        show ((li s)[i]?).getD 0 = _
        rw [List.getElem?_eq_getElem hl]
        rfl
      rw [e1]
      generalize (li s)[i] = c
      cases hc : (0 == c) with
      | true => have := beq_iff_eq.1 hc; subst this; rfl
      | false =>
        have hn : c ≠ 0 := fun e => by subst e; exact absurd hc (by decide)
        refine bne_iff_ne.2 fun h => hn ?_
        refine UInt8.toNat_inj.1 ?_
        have : c.toNat = 0 := by omega
        rw [this]
        rfl
    rw [e, Bool.not_or, Bool.and_assoc]
theorem named_same (s : ByteArray) : namedP s = (namedS s == 0) := by
  unfold namedP namedS
  rw [noZero_eq s s.size 0 _ (by omega), List.drop_zero, ib_neg]
  show (!(isS s []) && (decide ((s.size : Int) ≤ 200) && !((li s).contains 0))) = _
  by_cases h : (s.size : Int) ≤ 200
  · rw [decide_eq_true h, decide_eq_false (show ¬((s.size : Int) > 200) by omega), Bool.true_and]
    cases (!(isS s []) && !((li s).contains 0)) <;> rfl
  · rw [decide_eq_false h, decide_eq_true (show ((s.size : Int) > 200) by omega), Bool.false_and, Bool.and_false]
    rfl
/-- May an entry be, as the program asks? -/
def mayP (k : Int) (n d : ByteArray) (m : Int) (b : ByteArray) : Bool :=
  let linked := k == 3 || k == 4
  decide (k ≥ 1) && (decide (k ≤ 4) && (namedP n && (decide (m ≥ 0) && (decide (m ≤ 4095) && ((k == 1 || isS b []) && ((linked && namedP d) || (!linked && isS d [])))))))
theorem may_same (k : Int) (n d : ByteArray) (m : Int) (b : ByteArray) : mayP k n d m b = mayR k n d m b := by
  unfold mayP mayR
  rw [named_same, named_same]
  show _ = bif decide (k < 1) || (decide (k > 4) || (!(namedS n == 0) || (decide (m < 0) || (decide (m > 4095) || (!(k == 1) && !(isS b [])))))) then _ else _
  by_cases h1 : k < 1
  · rw [decide_eq_true h1, decide_eq_false (show ¬ k ≥ 1 by omega)]; rfl
  by_cases h2 : k > 4
  · rw [decide_eq_true h2, decide_eq_false (show ¬ k ≤ 4 by omega), Bool.true_or, Bool.or_true]
    show (decide (k ≥ 1) && false) = false
    rw [Bool.and_false]
  rw [decide_eq_false h1, decide_eq_false h2, decide_eq_true (show k ≥ 1 by omega), decide_eq_true (show k ≤ 4 by omega)]
  have h3 : k = 1 ∨ k = 2 ∨ k = 3 ∨ k = 4 := by omega
  have h4 : decide (m ≥ 0) = !(decide (m < 0)) := by by_cases h : m < 0 <;> simp [h] <;> omega
  have h5 : decide (m ≤ 4095) = !(decide (m > 4095)) := by by_cases h : m > 4095 <;> simp [h] <;> omega
  rw [h4, h5]
  generalize decide (m < 0) = x1
  generalize decide (m > 4095) = x2
  generalize (namedS n == 0) = x3
  generalize (namedS d == 0) = x4
  generalize isS b [] = x5
  generalize isS d [] = x6
  rcases h3 with rfl | rfl | rfl | rfl <;> cases x1 <;> cases x2 <;> cases x3 <;> cases x4 <;> cases x5 <;> cases x6 <;> rfl
def pmayG : Pure
  | [.agg ⟨[.int .i64 k, .string n, .string d, .int .i64 m, .string b]⟩] => some (n.size < 2 ^ 62 ∧ d.size < 2 ^ 62, .bool (mayR k n d m b))
  | _ => none
theorem pmay_ok : PureOk Tryz.prog 16 pmayG := by
  refine .of_run (call := callOf [(37, pureS namedPG)]) (hint := hints 16) (tb := noTab) hm (callOf_cons named_ok.spec callOf_nil) Tryz.func16 (by kernel_rfl) rfl (by kernel_rfl) (by repeat' first | exact trivial | constructor |  (intro _ h; cases h)) fun args c r h => ?_
  unfold pmayG at h
  split at h
  · rename_i k n d m b
    cases h
    refine ⟨rfl, fun hs => ⟨rfl, 1, fun K hK => ?_⟩⟩
    have hK := hK []
    refine toR (R := bcase (k == (3 : Int)) (bcase (decide (k ≥ (1 : Int))) (bcase (decide (k ≤ (4 : Int))) ((n.size < 4611686018427387904) ∧ (bcase (namedP n) (bcase (decide (m ≥ (0 : Int))) (bcase (decide (m ≤ (4095 : Int))) (bcase (k == (1 : Int)) ((d.size < 4611686018427387904) ∧ (bcase (namedP d) (K (.bool true) []) (K (.bool false) []))) (bcase (b.toList == (ByteArray.mk #[]).toList) ((d.size < 4611686018427387904) ∧ (bcase (namedP d) (K (.bool true) []) (K (.bool false) []))) (K (.bool false) []))) (K (.bool false) [])) (K (.bool false) [])) (K (.bool false) []))) (K (.bool false) [])) (K (.bool false) [])) (bcase (decide (k ≥ (1 : Int))) (bcase (decide (k ≤ (4 : Int))) ((n.size < 4611686018427387904) ∧ (bcase (namedP n) (bcase (decide (m ≥ (0 : Int))) (bcase (decide (m ≤ (4095 : Int))) (bcase (k == (1 : Int)) (bcase (k == (4 : Int)) ((d.size < 4611686018427387904) ∧ (bcase (namedP d) (K (.bool true) []) (bcase (!(k == (4 : Int))) (K (.bool (d.toList == (ByteArray.mk #[]).toList)) []) (K (.bool false) [])))) (bcase (!(k == (4 : Int))) (K (.bool (d.toList == (ByteArray.mk #[]).toList)) []) (K (.bool false) []))) (bcase (b.toList == (ByteArray.mk #[]).toList) (bcase (k == (4 : Int)) ((d.size < 4611686018427387904) ∧ (bcase (namedP d) (K (.bool true) []) (bcase (!(k == (4 : Int))) (K (.bool (d.toList == (ByteArray.mk #[]).toList)) []) (K (.bool false) [])))) (bcase (!(k == (4 : Int))) (K (.bool (d.toList == (ByteArray.mk #[]).toList)) []) (K (.bool false) []))) (K (.bool false) []))) (K (.bool false) [])) (K (.bool false) [])) (K (.bool false) []))) (K (.bool false) [])) (K (.bool false) []))) (by kernel_rfl) ?_
    rw [← may_same] at hK
    simp only [mayP, isS] at hK
    obtain ⟨h1, h2⟩ := hs
    repeat' first | with_reducible exact trivial | with_reducible refine need_of (by first | first | with_reducible assumption | (simp only [List.length_cons, List.length_nil, Nat.zero_add, Nat.zero_lt_succ, decide_true, Bool.and_true, Bool.and_self]; done) | with_reducible exact pos_of (by assumption) | with_reducible exact pos_of' (by assumption) | omega | (simp only [ByteArray.size_append, sz1, decide_eq_true_eq, *]; omega) | decide | (simp only [Bool.and_true, Bool.and_eq_true, decide_eq_true_eq, ByteArray.size_extract, ByteArray.size_append, sz1, Int.toNat_natCast, List.getD_eq_getElem?_getD, beq_iff_eq, decide_eq_false_iff_not] at *; omega) | ((repeat' constructor) <;> first | rfl | first | with_reducible assumption | (simp only [List.length_cons, List.length_nil, Nat.zero_add, Nat.zero_lt_succ, decide_true, Bool.and_true, Bool.and_self]; done) | with_reducible exact pos_of (by assumption) | with_reducible exact pos_of' (by assumption) | omega | (simp only [ByteArray.size_append, sz1, decide_eq_true_eq, *]; omega) | decide | (simp only [Bool.and_true, Bool.and_eq_true, decide_eq_true_eq, ByteArray.size_extract, ByteArray.size_append, sz1, Int.toNat_natCast, List.getD_eq_getElem?_getD, beq_iff_eq, decide_eq_false_iff_not] at *; omega))) ?_ | with_reducible refine And.intro (by first | first | with_reducible assumption | (simp only [List.length_cons, List.length_nil, Nat.zero_add, Nat.zero_lt_succ, decide_true, Bool.and_true, Bool.and_self]; done) | with_reducible exact pos_of (by assumption) | with_reducible exact pos_of' (by assumption) | omega | (simp only [ByteArray.size_append, sz1, decide_eq_true_eq, *]; omega) | decide | (simp only [Bool.and_true, Bool.and_eq_true, decide_eq_true_eq, ByteArray.size_extract, ByteArray.size_append, sz1, Int.toNat_natCast, List.getD_eq_getElem?_getD, beq_iff_eq, decide_eq_false_iff_not] at *; omega) | ((repeat' constructor) <;> first | rfl | first | with_reducible assumption | (simp only [List.length_cons, List.length_nil, Nat.zero_add, Nat.zero_lt_succ, decide_true, Bool.and_true, Bool.and_self]; done) | with_reducible exact pos_of (by assumption) | with_reducible exact pos_of' (by assumption) | omega | (simp only [ByteArray.size_append, sz1, decide_eq_true_eq, *]; omega) | decide | (simp only [Bool.and_true, Bool.and_eq_true, decide_eq_true_eq, ByteArray.size_extract, ByteArray.size_append, sz1, Int.toNat_natCast, List.getD_eq_getElem?_getD, beq_iff_eq, decide_eq_false_iff_not] at *; omega))) ?_ | with_reducible refine share_i ?_ ?_ | with_reducible refine bcase_not ?_ | with_reducible refine bcase_t rfl ?_ | with_reducible refine bcase_f rfl ?_ | with_reducible refine bcase_t (by assumption) ?_ | with_reducible refine bcase_f (by assumption) ?_ | (with_reducible refine bcase_of (fun hx => ?_) (fun hx => ?_) <;> try simp only [hx, bcase_tt, bcase_ff, Int.toNat_natCast, Bool.not_true, Bool.not_false, cond_true, cond_false, Bool.and_true, Bool.and_false, Bool.true_and, Bool.false_and, Bool.or_true, Bool.or_false, Bool.true_or, Bool.false_or] at hK)
    all_goals exact hK
  · cases h
def fullT (s : ByteArray) : ByteArray := s ++ zs ((512 - s.size % 512) % 512)
/-- What stands ahead of an entry's head. -/
def moreS (n d : ByteArray) : ByteArray := (bif decide ((n.size : Int) > 100) then recS ⟨#[112, 97, 116, 104]⟩ n else ⟨#[]⟩) ++ (bif decide ((d.size : Int) > 100) then recS ⟨#[108, 105, 110, 107, 112, 97, 116, 104]⟩ d else ⟨#[]⟩)
/-- A kind's byte. -/
def kindB (k : Int) : Int := if k = 1 then 48 else if k = 2 then 53 else if k = 3 then 49 else 50
abbrev pt (n : Nat) : Value := .pointer (some ⟨n, 0, some 0⟩)
abbrev rowE (k : Int) (n d : ByteArray) (m : Int) (b : ByteArray) : VB := .row raw 5 [[.int .i64 k, .string n, .string d, .int .i64 m, .string b]] .own
structure EntR (k : Int) (n d : ByteArray) (m : Int) (b : ByteArray) : Prop where
  k1 : 1 ≤ k
  k4 : k ≤ 4
  n : n.size ≤ 400
  d : d.size ≤ 400
  m0 : 0 ≤ m
  m1 : m < 4096
  b : b.size < 2 ^ 30
def entJ9 : LSpec
  | [(1, .pointer (some ⟨0, 0, some 0⟩)), (4, .string s)], H, K => ∃ k n d m b, (H = [rowE k n d m b] ∧ EntR k n d m b ∧ s.size < 2 ^ 40) ∧ K .ret [(2, .string ((s ++ headS n d m.toNat b.size (kindT (kindB k))) ++ fullT b))] [rowE k n d m b]
  | _, _, _ => False
theorem headS_size (n d : ByteArray) (m b : Nat) (k : Int) : (headS n d m b (kindT k)).size = 512 := by
  unfold headS
  simp only [ByteArray.size_append, headA_size, headB_size, octS_size _ 7 (show 1 ≤ 7 by omega)]
  rfl
theorem pick_kind {k : Int} (h1 : 1 ≤ k) (h4 : k ≤ 4) : pickI glob0 k.toNat = kindB k := by
  have : k = 1 ∨ k = 2 ∨ k = 3 ∨ k = 4 := by omega
  rcases this with rfl | rfl | rfl | rfl <;> rfl
theorem entJ9_ok : CodeOk Tryz.prog Tryz.f18.ntmps (jn Tryz.f18 9) entJ9 := by
  refine join_ok (call := callOf [(39, pureS precG), (40, pureS pheadG), (41, pureS fullG)]) (hint := hints 18) (tb := noTab) hm (callOf_cons prec_ok.spec (callOf_cons phead_ok.spec (callOf_cons data_ok.spec callOf_nil))) (by kernel_rfl) (by repeat' first | exact trivial | constructor |  (intro _ h; cases h)) fun fr H K h => ?_
  unfold entJ9 at h
  split at h
  · rename_i s
    obtain ⟨k, n, d, m, b, ⟨rfl, hr, hs⟩, hK⟩ := h
    refine ⟨1, ?_⟩
    refine toR (R := need ((((decide ((0 : Int) ≤ k)) && (decide (k < (↑5 : Int)))) && true) && true) (need (((k.toNat.blt 5) && true) && true) ((((n.size < 1099511627776) ∧ (d.size < 1099511627776)) ∧ (((0 : Int) ≤ m) ∧ ((m < ((2 : Int) ^ 20)) ∧ (((0 : Int) ≤ (↑b.size : Int)) ∧ ((↑b.size : Int) < ((2 : Int) ^ 32)))))) ∧ (need (((decide ((s.size + (headS n d m.toNat (↑b.size : Int).toNat (kindT (pickI glob0 k.toNat))).size) < 9223372036854775808)) && true) && true) ((b.size < 1099511627776) ∧ (need (((decide (((s ++ (headS n d m.toNat (↑b.size : Int).toNat (kindT (pickI glob0 k.toNat)))).size + (b ++ (zs ((512 - (b.size % 512)) % 512))).size) < 9223372036854775808)) && true) && true) (K .ret [(2, (.string ((s ++ (headS n d m.toNat (↑b.size : Int).toNat (kindT (pickI glob0 k.toNat)))) ++ (b ++ (zs ((512 - (b.size % 512)) % 512))))))] [(VB.row raw 5 [[(.int .i64 k), (.string n), (.string d), (.int .i64 m), (.string b)]] .own)]))))))) (by kernel_rfl) ?_ --share
    rw [pick_kind hr.k1 hr.k4]
    have hh := headS_size n d m.toNat (b.size : Int).toNat (kindB k)
    have z := zs_size ((512 - b.size % 512) % 512)
    obtain ⟨k1, k4, hn, hd, m0, m1, hb⟩ := hr
    have hK : K .ret [(2, .string ((s ++ headS n d m.toNat (b.size : Int).toNat (kindT (kindB k))) ++ (b ++ (zs ((512 - (b.size % 512)) % 512)))))] [rowE k n d m b] := hK
    generalize headS n d m.toNat (b.size : Int).toNat (kindT (kindB k)) = x at hh hK ⊢
    generalize zs ((512 - b.size % 512) % 512) = y at z hK ⊢
    have e1 : (2 : Int) ^ 20 = 1048576 ∧ (2 : Int) ^ 32 = 4294967296 := by decide
    have e2 : k.toNat.blt 5 = true := by
      have : k = 1 ∨ k = 2 ∨ k = 3 ∨ k = 4 := by omega
      rcases this with rfl | rfl | rfl | rfl <;> rfl
    rw [e2]
    (repeat' first | with_reducible exact hK | with_reducible exact trivial | with_reducible refine need_of ?_ ?_ | with_reducible refine And.intro ?_ ?_ | with_reducible refine share_i ?_ ?_) <;> first | omega | (simp only [Bool.and_true, Bool.and_eq_true, decide_eq_true_eq, ByteArray.size_append] <;> omega)
  · exact h.elim
theorem recS_size (key value : ByteArray) (h : key.size + value.size ≤ 900) : (recS key value).size = recN (key.size + value.size) := by
  rw [recS_eq key value h, recT_size]
  have := recN_hit h
  omega
/-- What is ahead of a head, of its records. -/
def aheadS (s : ByteArray) : ByteArray := bif isS s [] then ⟨#[]⟩ else headS ⟨#[112, 97, 120]⟩ ⟨#[]⟩ 0 s.size (kindT 120) ++ fullT s
def restS (s : ByteArray) (k : Int) (n d : ByteArray) (m : Int) (b : ByteArray) : ByteArray := (aheadS s ++ headS n d m.toNat b.size (kindT (kindB k))) ++ fullT b
attribute [local irreducible] restS
def entJ6 : LSpec
  | [(1, .pointer (some ⟨0, 0, some 0⟩)), (3, .string s)], H, K => ∃ k n d m b, (H = [rowE k n d m b] ∧ EntR k n d m b ∧ s.size < 2 ^ 30) ∧ K .ret [(2, .string (restS s k n d m b))] [rowE k n d m b]
  | _, _, _ => False
def tab18a : Tab := ⟨fun _ => none, fun | 9 => some entJ9 | _ => none⟩
theorem entJ6_ok : CodeOk Tryz.prog Tryz.f18.ntmps (jn Tryz.f18 6) entJ6 := by
  refine join_ok (call := callOf [(39, pureS precG), (40, pureS pheadG), (41, pureS fullG)]) (hint := hints 18) (tb := tab18a) hm (callOf_cons prec_ok.spec (callOf_cons phead_ok.spec (callOf_cons data_ok.spec callOf_nil))) (by kernel_rfl) (by repeat' first | exact trivial | constructor | (intro _ h; cases h; exact entJ9_ok) | (intro _ h; cases h)) fun fr H K h => ?_
  unfold entJ6 at h
  split at h
  · rename_i s
    obtain ⟨k, n, d, m, b, ⟨rfl, hr, hs⟩, hK⟩ := h
    refine ⟨1, ?_⟩
    refine toR (R := bcase (!(s.toList == (ByteArray.mk #[]).toList)) ((((3 < 1099511627776) ∧ (0 < 1099511627776)) ∧ (((0 : Int) ≤ (0 : Int)) ∧ (((0 : Int) < ((2 : Int) ^ 20)) ∧ (((0 : Int) ≤ (↑s.size : Int)) ∧ ((↑s.size : Int) < ((2 : Int) ^ 32)))))) ∧ ((s.size < 1099511627776) ∧ (need (decide (((headS (ByteArray.mk #[112, 97, 120]) (ByteArray.mk #[]) 0 (↑s.size : Int).toNat (kindT (120 : Int))).size + (s ++ (zs ((512 - (s.size % 512)) % 512))).size) < 9223372036854775808)) (∃ (k_1 : Int), (∃ (n_1 : ByteArray), (∃ (d_1 : ByteArray), (∃ (m_1 : Int), (∃ (b_1 : ByteArray), ((([(VB.row raw 5 [[(.int .i64 k), (.string n), (.string d), (.int .i64 m), (.string b)]] .own)] = [(VB.row raw 5 [[(.int .i64 k_1), (.string n_1), (.string d_1), (.int .i64 m_1), (.string b_1)]] .own)]) ∧ ((EntR k_1 n_1 d_1 m_1 b_1) ∧ (((headS (ByteArray.mk #[112, 97, 120]) (ByteArray.mk #[]) 0 (↑s.size : Int).toNat (kindT (120 : Int))) ++ (s ++ (zs ((512 - (s.size % 512)) % 512)))).size < 1099511627776))) ∧ (K .ret [(2, (.string ((((headS (ByteArray.mk #[112, 97, 120]) (ByteArray.mk #[]) 0 (↑s.size : Int).toNat (kindT (120 : Int))) ++ (s ++ (zs ((512 - (s.size % 512)) % 512)))) ++ (headS n_1 d_1 m_1.toNat b_1.size (kindT (kindB k_1)))) ++ (fullT b_1))))] [(VB.row raw 5 [[(.int .i64 k_1), (.string n_1), (.string d_1), (.int .i64 m_1), (.string b_1)]] .own)])))))))))) (∃ (k_1 : Int), (∃ (n_1 : ByteArray), (∃ (d_1 : ByteArray), (∃ (m_1 : Int), (∃ (b_1 : ByteArray), ((([(VB.row raw 5 [[(.int .i64 k), (.string n), (.string d), (.int .i64 m), (.string b)]] .own)] = [(VB.row raw 5 [[(.int .i64 k_1), (.string n_1), (.string d_1), (.int .i64 m_1), (.string b_1)]] .own)]) ∧ ((EntR k_1 n_1 d_1 m_1 b_1) ∧ (0 < 1099511627776))) ∧ (K .ret [(2, (.string (((ByteArray.mk #[]) ++ (headS n_1 d_1 m_1.toNat b_1.size (kindT (kindB k_1)))) ++ (fullT b_1))))] [(VB.row raw 5 [[(.int .i64 k_1), (.string n_1), (.string d_1), (.int .i64 m_1), (.string b_1)]] .own)])))))))) (by kernel_rfl) ?_ --share
    unfold restS aheadS at hK
    refine bcase_not (bcase_of (fun h => ?_) (fun h => ?_))
    · have h : isS s [] = true := h
      rw [h] at hK
      exact ⟨k, n, d, m, b, ⟨rfl, hr, by omega⟩, hK⟩
    · have h : isS s [] = false := h
      rw [h] at hK
      have z := zs_size ((512 - s.size % 512) % 512)
      have hh := headS_size ⟨#[112, 97, 120]⟩ ⟨#[]⟩ 0 s.size 120
      have e1 : (2 : Int) ^ 20 = 1048576 ∧ (2 : Int) ^ 32 = 4294967296 := by decide
      have hK : K .ret [(2, .string (((headS ⟨#[112, 97, 120]⟩ ⟨#[]⟩ 0 s.size (kindT 120) ++ (s ++ (zs ((512 - (s.size % 512)) % 512)))) ++ headS n d m.toNat b.size (kindT (kindB k))) ++ fullT b))] [rowE k n d m b] := hK
      rw [show headS ⟨#[112, 97, 120]⟩ ⟨#[]⟩ 0 s.size (kindT 120) = headS ⟨#[112, 97, 120]⟩ ⟨#[]⟩ 0 (s.size : Int).toNat (kindT 120) from rfl] at hh hK
      generalize headS ⟨#[112, 97, 120]⟩ ⟨#[]⟩ 0 (s.size : Int).toNat (kindT 120) = x at hh hK ⊢
      generalize zs ((512 - s.size % 512) % 512) = y at z hK ⊢
      refine ⟨⟨⟨by omega, by omega⟩, by omega, by omega, by omega, by omega⟩, by omega, need_of (by simp only [decide_eq_true_eq, ByteArray.size_append]; omega) ⟨k, n, d, m, b, ⟨rfl, hr, by simp only [ByteArray.size_append]; omega⟩, hK⟩⟩
  · exact h.elim
def entS (k : Int) (n d : ByteArray) (m : Int) (b : ByteArray) : ByteArray := restS (moreS n d) k n d m b
def entG : Pure
  | [.agg ⟨[.int .i64 k, .string n, .string d, .int .i64 m, .string b]⟩] => some ((1 ≤ k ∧ k ≤ 4) ∧ n.size ≤ 400 ∧ d.size ≤ 400 ∧ 0 ≤ m ∧ m < 4096 ∧ b.size < 2 ^ 30, .string (entS k n d m b))
  | _ => none
def tab18 : Tab := ⟨fun _ => none, fun | 6 => some entJ6 | _ => none⟩
theorem ent_ok : PureOk Tryz.prog 18 entG := by
  refine .of_run (call := callOf [(39, pureS precG), (40, pureS pheadG), (41, pureS fullG)]) (hint := hints 18) (tb := tab18) hm (callOf_cons prec_ok.spec (callOf_cons phead_ok.spec (callOf_cons data_ok.spec callOf_nil))) Tryz.func18 (by kernel_rfl) rfl (by kernel_rfl) (by repeat' first | exact trivial | constructor | (intro _ h; cases h; exact entJ6_ok) | (intro _ h; cases h)) fun args c r h => ?_
  unfold entG at h
  split at h
  · rename_i k n d m b
    cases h
    refine ⟨rfl, fun hs => ⟨rfl, 1, fun K hK => ?_⟩⟩
    have hK := hK []
    refine toR (R := bcase (decide ((↑n.size : Int) > (100 : Int))) (((4 + n.size) ≤ 900) ∧ (need (decide ((0 + (recS (ByteArray.mk #[112, 97, 116, 104]) n).size) < 9223372036854775808)) (bcase (decide ((↑d.size : Int) > (100 : Int))) (((8 + d.size) ≤ 900) ∧ (need (decide ((((ByteArray.mk #[]) ++ (recS (ByteArray.mk #[112, 97, 116, 104]) n)).size + (recS (ByteArray.mk #[108, 105, 110, 107, 112, 97, 116, 104]) d).size) < 9223372036854775808)) (∃ (k_1 : Int), (∃ (n_1 : ByteArray), (∃ (d_1 : ByteArray), (∃ (m_1 : Int), (∃ (b_1 : ByteArray), ((([(VB.row raw 5 [[(.int .i64 k), (.string n), (.string d), (.int .i64 m), (.string b)]] .own)] = [(VB.row raw 5 [[(.int .i64 k_1), (.string n_1), (.string d_1), (.int .i64 m_1), (.string b_1)]] .own)]) ∧ ((EntR k_1 n_1 d_1 m_1 b_1) ∧ ((((ByteArray.mk #[]) ++ (recS (ByteArray.mk #[112, 97, 116, 104]) n)) ++ (recS (ByteArray.mk #[108, 105, 110, 107, 112, 97, 116, 104]) d)).size < 1073741824))) ∧ (K (.string (restS (((ByteArray.mk #[]) ++ (recS (ByteArray.mk #[112, 97, 116, 104]) n)) ++ (recS (ByteArray.mk #[108, 105, 110, 107, 112, 97, 116, 104]) d)) k_1 n_1 d_1 m_1 b_1)) []))))))))) (∃ (k_1 : Int), (∃ (n_1 : ByteArray), (∃ (d_1 : ByteArray), (∃ (m_1 : Int), (∃ (b_1 : ByteArray), ((([(VB.row raw 5 [[(.int .i64 k), (.string n), (.string d), (.int .i64 m), (.string b)]] .own)] = [(VB.row raw 5 [[(.int .i64 k_1), (.string n_1), (.string d_1), (.int .i64 m_1), (.string b_1)]] .own)]) ∧ ((EntR k_1 n_1 d_1 m_1 b_1) ∧ (((ByteArray.mk #[]) ++ (recS (ByteArray.mk #[112, 97, 116, 104]) n)).size < 1073741824))) ∧ (K (.string (restS ((ByteArray.mk #[]) ++ (recS (ByteArray.mk #[112, 97, 116, 104]) n)) k_1 n_1 d_1 m_1 b_1)) [])))))))))) (bcase (decide ((↑d.size : Int) > (100 : Int))) (((8 + d.size) ≤ 900) ∧ (need (decide ((0 + (recS (ByteArray.mk #[108, 105, 110, 107, 112, 97, 116, 104]) d).size) < 9223372036854775808)) (∃ (k_1 : Int), (∃ (n_1 : ByteArray), (∃ (d_1 : ByteArray), (∃ (m_1 : Int), (∃ (b_1 : ByteArray), ((([(VB.row raw 5 [[(.int .i64 k), (.string n), (.string d), (.int .i64 m), (.string b)]] .own)] = [(VB.row raw 5 [[(.int .i64 k_1), (.string n_1), (.string d_1), (.int .i64 m_1), (.string b_1)]] .own)]) ∧ ((EntR k_1 n_1 d_1 m_1 b_1) ∧ (((ByteArray.mk #[]) ++ (recS (ByteArray.mk #[108, 105, 110, 107, 112, 97, 116, 104]) d)).size < 1073741824))) ∧ (K (.string (restS ((ByteArray.mk #[]) ++ (recS (ByteArray.mk #[108, 105, 110, 107, 112, 97, 116, 104]) d)) k_1 n_1 d_1 m_1 b_1)) []))))))))) (∃ (k_1 : Int), (∃ (n_1 : ByteArray), (∃ (d_1 : ByteArray), (∃ (m_1 : Int), (∃ (b_1 : ByteArray), ((([(VB.row raw 5 [[(.int .i64 k), (.string n), (.string d), (.int .i64 m), (.string b)]] .own)] = [(VB.row raw 5 [[(.int .i64 k_1), (.string n_1), (.string d_1), (.int .i64 m_1), (.string b_1)]] .own)]) ∧ ((EntR k_1 n_1 d_1 m_1 b_1) ∧ (0 < 1073741824))) ∧ (K (.string (restS (ByteArray.mk #[]) k_1 n_1 d_1 m_1 b_1)) []))))))))) (by kernel_rfl) ?_
    obtain ⟨⟨k1, k4⟩, hn, hd, m0, m1, hb⟩ := hs
    have hr : EntR k n d m b := ⟨k1, k4, hn, hd, m0, m1, hb⟩
    have r1 := recS_size ⟨#[112, 97, 116, 104]⟩ n (by show 4 + n.size ≤ 900; omega)
    have r2 := recS_size ⟨#[108, 105, 110, 107, 112, 97, 116, 104]⟩ d (by show 8 + d.size ≤ 900; omega)
    have hN : ∀ m, m ≤ 900 → recN m ≤ 906 := fun m h => by unfold recN; split <;> first | omega | (split <;> omega)
    have q1 := hN ((ByteArray.mk #[112, 97, 116, 104]).size + n.size) (by show 4 + n.size ≤ 900; omega)
    have q2 := hN ((ByteArray.mk #[108, 105, 110, 107, 112, 97, 116, 104]).size + d.size) (by show 8 + d.size ≤ 900; omega)
    have z0 : (ByteArray.mk #[]).size = 0 := rfl
    have e0 : ∀ x : ByteArray, (ByteArray.mk #[]) ++ x = x := fun x => ByteArray.empty_append
    have e1 : ∀ x : ByteArray, x ++ (ByteArray.mk #[]) = x := fun x => ByteArray.append_empty
    simp only [entS, moreS] at hK
    generalize recS ⟨#[112, 97, 116, 104]⟩ n = x at r1 hK ⊢
    generalize recS ⟨#[108, 105, 110, 107, 112, 97, 116, 104]⟩ d = y at r2 hK ⊢
    refine bcase_of (fun h1 => ?_) (fun h1 => ?_) <;> rw [h1] at hK
    · refine ⟨by omega, need_of (decide_eq_true (by omega)) (bcase_of (fun h2 => ?_) (fun h2 => ?_))⟩ <;> rw [h2] at hK <;> simp only [cnd_t, cnd_f, e0, e1] at hK ⊢
      · exact ⟨by omega, need_of (decide_eq_true (by omega)) ⟨k, n, d, m, b, ⟨rfl, hr, by rw [ByteArray.size_append]; omega⟩, hK⟩⟩
      · exact ⟨k, n, d, m, b, ⟨rfl, hr, by omega⟩, hK⟩
    · refine bcase_of (fun h2 => ?_) (fun h2 => ?_) <;> rw [h2] at hK <;> simp only [cnd_t, cnd_f, e0, e1] at hK ⊢
      · exact ⟨by omega, need_of (decide_eq_true (by omega)) ⟨k, n, d, m, b, ⟨rfl, hr, by omega⟩, hK⟩⟩
      · exact ⟨k, n, d, m, b, ⟨rfl, hr, by omega⟩, hK⟩
  · cases h
end Go.Proofs.YtbgilaacfbinbaaGreatDoor.PM

set_option linter.unusedVariables false
set_option linter.unusedSimpArgs false
namespace Go.Proofs.YtbgilaacfbinbaaGreatDoor.PM
open Go Go.Proofs Go.Shelf Go.RowKit
set_option maxHeartbeats 1000000 in
set_option maxRecDepth 100000 in
theorem copyCheck_used (b : Nat) (w : World) (h0 : w.cell? ⟨b, 0, none⟩ = some (.pointer (some ⟨b, 0, none⟩))) :
    Calls Tryz.prog 38 #[.pointer (some ⟨b, 0, none⟩)] w fun e w' => e = .returned (.tuple #[]) ∧ w' = w := by
  have X := Tryz.Builder_Extra_169
  obtain ⟨j, hj, _⟩ := Option.map_eq_some_iff.1 X.sizeBuilder
  have mixed : (Tryz.prog).follows .mixedOrders = true := by kernel_rfl
  have t72 := Tryz.underlying45; have a72 := Tryz.isAgg45; have z72 := Tryz.sizeOf45; have v72 := Tryz.zeroValue45; have u72 := run_underlying Tryz.underlying45
  have t70 := Tryz.underlying43; have a70 := Tryz.isAgg43; have z70 := Tryz.sizeOf43; have v70 := Tryz.zeroValue43; have u70 := run_underlying Tryz.underlying43
  have t4 := Tryz.underlying4; have a4 := Tryz.isAgg4; have z4 := Tryz.sizeOf4; have v4 := Tryz.zeroValue4; have u4 := run_underlying Tryz.underlying4
  have t164 := Tryz.underlying92; have a164 := Tryz.isAgg92; have z164 := Tryz.sizeOf92; have v164 := Tryz.zeroValue92; have u164 := run_underlying Tryz.underlying92
  go_enter Tryz.func38, Tryz.ntmps38
  go_wp2
  rw [Lib.run_neq_ptr_same w _ Tryz.underlying43 hj]
  go_wp2
  go_end0
  exact ⟨rfl, rfl⟩
set_option maxHeartbeats 1000000 in
set_option maxRecDepth 100000 in
theorem copyCheck_fresh (b : Nat) (w : World) (h0 : w.cell? ⟨b, 0, none⟩ = some (.pointer none)) (hsh : w.shape? b = some (45, 2)) (hfz : w.frozen? ⟨b, 0, none⟩ = false) :
    Calls Tryz.prog 38 #[.pointer (some ⟨b, 0, none⟩)] w fun e w' => e = .returned (.tuple #[]) ∧ w' = w.setCell ⟨b, 0, none⟩ (.pointer (some ⟨b, 0, none⟩)) := by
  have X := Tryz.Builder_Extra_169
  obtain ⟨j, hj, hjs⟩ := Option.map_eq_some_iff.1 X.sizeBuilder
  have mixed : (Tryz.prog).follows .mixedOrders = true := by kernel_rfl
  have t72 := Tryz.underlying45; have a72 := Tryz.isAgg45; have z72 := Tryz.sizeOf45; have v72 := Tryz.zeroValue45; have u72 := run_underlying Tryz.underlying45
  have t70 := Tryz.underlying43; have a70 := Tryz.isAgg43; have z70 := Tryz.sizeOf43; have v70 := Tryz.zeroValue43; have u70 := run_underlying Tryz.underlying43
  have t4 := Tryz.underlying4; have a4 := Tryz.isAgg4; have z4 := Tryz.sizeOf4; have v4 := Tryz.zeroValue4; have u4 := run_underlying Tryz.underlying4
  have t164 := Tryz.underlying92; have a164 := Tryz.isAgg92; have z164 := Tryz.sizeOf92; have v164 := Tryz.zeroValue92; have u164 := run_underlying Tryz.underlying92
  go_enter Tryz.func38, Tryz.ntmps38
  go_wp2
  rw [Lib.run_to_unsafe w ⟨b, 0, none⟩ Tryz.underlying43 Tryz.underlying92 hj (by rw [hjs]; decide) hsh (Nat.zero_lt_succ 1)]
  simp only [Result.andThen]
  rw [Oper.upon_value]
  go_wp2
  rw [run_callFunc_extern Tryz.func55 (by kernel_rfl) (by kernel_rfl) (by kernel_rfl) (e := Extern.AbiNoEscape.same) (by kernel_rfl)]
  rw [Lib.run_noEscape]
  simp only [Result.andThen]
  rw [Oper.upon_value]
  go_wp2
  rw [Lib.run_from_unsafe w ⟨b, 0, none⟩ Tryz.underlying92 Tryz.underlying43 hj hsh X.liesBuilder]
  simp only [Result.andThen]
  rw [Oper.upon_value]
  go_wp2
  go_end0
  exact ⟨rfl, rfl⟩
theorem copyCheck_ok (B b : Nat) (bs : List Value) (w : World) (h : Lib.IsBuilder 45 5 B b bs w) :
    Calls Tryz.prog 38 #[.pointer (some ⟨b, 0, none⟩)] w fun e w' => e = .returned (.tuple #[]) ∧ (Lib.BuilderAt 45 5 B b (.pointer (some ⟨b, 0, none⟩)) bs w' ∧ Below B w w') := by
  rcases h with h | h
  · refine (copyCheck_fresh b w h.cell0 h.shape h.frozen0).mono ?_
    rintro e w' ⟨rfl, rfl⟩
    exact ⟨rfl, h.used _, (Below.refl B w).setCell (p := ⟨b, 0, none⟩) h.1 _⟩
  · refine (copyCheck_used b w h.cell0).mono ?_
    rintro e w' ⟨rfl, rfl⟩
    exact ⟨rfl, h, Below.refl B _⟩
set_option maxHeartbeats 2000000 in
set_option maxRecDepth 100000 in
theorem writeString_ok (B b : Nat) (bs : List Value) (s : ByteArray) (w : World) (h : Lib.IsBuilder 45 5 B b bs w) (hlen : bs.length + s.size ≤ 140737488355328) (hBw : B ≤ w.heap.size) :
    Calls Tryz.prog 17 #[.pointer (some ⟨b, 0, none⟩), .string s] w fun e w' => e = .returned (.tuple #[.int .i64 s.size, .nilIface]) ∧ (Lib.BuilderAt 45 5 B b (.pointer (some ⟨b, 0, none⟩)) (bs ++ Lib.strCells s) w' ∧ Below B w w') := by
  have X := Tryz.Builder_Extra_169
  obtain ⟨j, hj, hjs⟩ := Option.map_eq_some_iff.1 X.sizeBuilder
  have mixed : (Tryz.prog).follows .mixedOrders = true := by kernel_rfl
  have t72 := Tryz.underlying45; have a72 := Tryz.isAgg45; have z72 := Tryz.sizeOf45; have v72 := Tryz.zeroValue45; have u72 := run_underlying Tryz.underlying45
  have t70 := Tryz.underlying43; have a70 := Tryz.isAgg43; have z70 := Tryz.sizeOf43; have v70 := Tryz.zeroValue43; have u70 := run_underlying Tryz.underlying43
  have t4 := Tryz.underlying4; have a4 := Tryz.isAgg4; have z4 := Tryz.sizeOf4; have v4 := Tryz.zeroValue4; have u4 := run_underlying Tryz.underlying4
  have t3 := Tryz.underlying3; have a3 := Tryz.isAgg3; have z3 := Tryz.sizeOf3; have v3 := Tryz.zeroValue3; have u3 := run_underlying Tryz.underlying3
  have t9 := Tryz.underlying9; have a9 := Tryz.isAgg9; have z9 := Tryz.sizeOf9; have v9 := Tryz.zeroValue9; have u9 := run_underlying Tryz.underlying9
  have t164 := Tryz.underlying92; have a164 := Tryz.isAgg92; have z164 := Tryz.sizeOf92; have v164 := Tryz.zeroValue92; have u164 := run_underlying Tryz.underlying92
  obtain ⟨i0, hi, hz0, hz1, hz2⟩ := info_parts X.infoByte
  have t5 := Tryz.underlying5; have a5 := Tryz.isAgg5; have z5 := Tryz.sizeOf5; have v5 := Tryz.zeroValue5; have u5 := run_underlying Tryz.underlying5
  have t37 := Tryz.underlying33; have a37 := Tryz.isAgg33; have z37 := Tryz.sizeOf33; have v37 := Tryz.zeroValue33; have u37 := run_underlying Tryz.underlying33
  have e240 : ∀ args w, (callFunc 38 args).run Tryz.prog w = .ok (.enter 38 args) w := enters_of Tryz.func38 (by kernel_rfl) rfl
  go_enter Tryz.func17, Tryz.ntmps17
  go_wp2_with (go_at_fn 38; refine (copyCheck_ok B b bs _ h).mono ?_)
  rintro e w1 ⟨rfl, h1, hb1⟩
  obtain ⟨hB, v, hbk, hown, hne⟩ := h1
  have c0 : w1.cell? ⟨b, 0, none⟩ = some (.pointer (some ⟨b, 0, none⟩)) := by rw [Lib.cell_of_heap hbk]; rfl
  have c1 : w1.cell? ⟨b, 1, none⟩ = some v := by rw [Lib.cell_of_heap hbk]; rfl
  go_wp2_with (at_builtin; refine Lib.wpList_append_own_string _ rfl _ _ 33 9 rfl B 5 i0 Tryz.underlying33 Tryz.underlying9 hi hz0 hz1 hz2 _ _ _ rfl hown s rfl ?c3 ?c4 ?c5 ?_)
  case c3 => unfold maxLen; omega
  case c4 => omega
  case c5 => have := hb1.size; omega
  intro v' w2 hown' hgrow _
  have hlt : b < w1.heap.size := by
    rcases Nat.lt_or_ge b w1.heap.size with h' | h'
    · exact h'
    · simp [Array.getElem?_eq_none h'] at hbk
  have hb2 : w2.heap[b]? = some (.cells #[.pointer (some ⟨b, 0, none⟩), v] 45 (0, 0)) := by
    rw [hgrow.block b hlt (fun e => hne e.symm)]
    exact hbk
  have d0 : w2.cell? ⟨b, 0, none⟩ = some (.pointer (some ⟨b, 0, none⟩)) := by rw [Lib.cell_of_heap hb2]; rfl
  have d1 : w2.cell? ⟨b, 1, none⟩ = some v := by rw [Lib.cell_of_heap hb2]; rfl
  have f1 : w2.frozen? ⟨b, 1, none⟩ = false := Lib.frozen_of_heap hb2 1
  obtain ⟨ao, n', cap, rfl⟩ : ∃ ao n' cap, v' = .slice ao n' cap := by
    rcases hown'.2 with ⟨hv, _⟩ | ⟨g, cap, cur, hv, _⟩
    · exact ⟨_, _, _, hv⟩
    · exact ⟨_, _, _, hv⟩
  go_wp2
  go_ret2
  refine ⟨rfl, ?_, ?_⟩
  · exact Lib.BuilderAt.put (T := 45) (e := 5) hB hb2 (bs' := bs ++ Lib.strCells s) (by simpa [Lib.strCells_length] using hown') X.neB5
  · exact (hb1.grown hgrow (by have := hb1.size; omega) (fun k hk => (hown.lt k hk).1)).setCell (p := ⟨b, 1, none⟩) hB _
/-- What a builder holds, it holds in a world in which nothing of it has turned. -/
theorem bld_below {T e : TypeId} {B b : Nat} {bs : List Value} {w w' : World} (h : Lib.IsBuilder T e B b bs w) (k : Below w.heap.size w w') : Lib.IsBuilder T e B b bs w' := by
  have one : ∀ p, Lib.BuilderAt T e B b p bs w → Lib.BuilderAt T e B b p bs w' := fun p hp => by
    have hlt := hp.lt
    obtain ⟨hB, v, hb, hown, hne⟩ := hp
    refine ⟨hB, v, (k.block b hlt).trans hb, hown.kept (row := none) ⟨k.os, k.tape, k.output, k.size, fun i hi _ => k.block i hi⟩ ?_, hne⟩
    cases v.ownBlock with
    | none => exact .inl rfl
    | some g => exact .inr (by simp)
  rcases h with h | h
  · exact .inl (one _ h)
  · exact .inr (one _ h)
end Go.Proofs.YtbgilaacfbinbaaGreatDoor.PM

set_option linter.unusedVariables false
set_option linter.unusedSimpArgs false
namespace Go.Proofs.YtbgilaacfbinbaaGreatDoor.PM
open Go Go.Proofs Go.Shelf Go.RowKit Go.Lib

/-- An entry: its kind, its name, where it leads, its mode, its bytes. -/
abbrev entC : Codec := flatC [.i .i64, .s, .s, .i .i64, .s]
abbrev Ent : Type := entC.α
def entA (x : Ent) : Array Value := #[.int .i64 x.1, .string x.2.1, .string x.2.2.1, .int .i64 x.2.2.2.1, .string x.2.2.2.2.1]
structure EntZ (x : Ent) : Prop where
  n : x.2.1.size ≤ 400
  d : x.2.2.1.size ≤ 400
  b : x.2.2.2.2.1.size < 2 ^ 30
/-- The bytes of entries behind others; none: one may not be. -/
def wrWith (may : Ent → Bool) (txt : Ent → ByteArray) : List Ent → ByteArray → Option ByteArray
  | [], s => some s
  | x :: r, s => bif may x then wrWith may txt r (s ++ txt x) else none
def wrV (zt : ByteArray) : Option ByteArray → Value
  | some s => .tuple #[.string (s ++ zt), .int .i64 0]
  | none => .tuple #[.string ⟨#[]⟩, .int .i64 2]
set_option maxHeartbeats 4000000 in
set_option maxRecDepth 1000000 in
theorem write_any (may : Ent → Bool) (txt : Ent → ByteArray) (zt : ByteArray)
    (hMay : ∀ x w, Wd w → EntZ x → Calls Tryz.prog 16 #[.agg (entA x)] w fun e w' => e = .returned (.bool (may x)) ∧ Below w.heap.size w w')
    (hTxt : ∀ x w, Wd w → EntZ x → may x = true → Calls Tryz.prog 18 #[.agg (entA x)] w fun e w' => e = .returned (.string (txt x)) ∧ Below w.heap.size w w')
    (hZ : ∀ w, Wd w → Calls Tryz.prog 19 #[.int .i64 1024] w fun e w' => e = .returned (.string zt) ∧ Below w.heap.size w w')
    (hSz : ∀ x, EntZ x → (txt x).size ≤ 2147483648) (hzt : zt.size = 1024)
    (l : List Ent) (pb o c : Nat) (w : World) (hw : Wd w) (hpb : pb < w.heap.size) (hcells : ∀ i x, l[i]? = some x → w.rangeAt pb (o + i * 5) (entA x).toList)
    (hl : l.length ≤ 200) (hz : ∀ x ∈ l, EntZ x) :
    Calls Tryz.prog 10 #[.slice (some ⟨pb, o, none⟩) l.length c] w fun e w' => e = .returned (wrV zt (wrWith may txt l ⟨#[]⟩)) ∧ Below w.heap.size w w' := by
  have mixed : (Tryz.prog).follows .mixedOrders = true := by kernel_rfl
  have t3 := Tryz.underlying3; have a3 := Tryz.isAgg3; have z3 := Tryz.sizeOf3; have v3 := Tryz.zeroValue3; have u3 := run_underlying Tryz.underlying3
  have t4 := Tryz.underlying4; have a4 := Tryz.isAgg4; have z4 := Tryz.sizeOf4; have v4 := Tryz.zeroValue4; have u4 := run_underlying Tryz.underlying4
  have t9 := Tryz.underlying9; have a9 := Tryz.isAgg9; have z9 := Tryz.sizeOf9; have v9 := Tryz.zeroValue9; have u9 := run_underlying Tryz.underlying9
  have t22 := Tryz.underlying22; have a22 := Tryz.isAgg22; have z22 := Tryz.sizeOf22; have v22 := Tryz.zeroValue22; have u22 := run_underlying Tryz.underlying22
  have t29 := Tryz.underlying29; have z29 := Tryz.sizeOf29; have v29 := Tryz.zeroValue29; have u29 := run_underlying Tryz.underlying29
  have v45 := Tryz.zeroValue45
  have t25 := Tryz.underlying25; have a25 := Tryz.isAgg25
  have e16 : ∀ args w, (callFunc 16 args).run Tryz.prog w = .ok (.enter 16 args) w := enters_of Tryz.func16 (by kernel_rfl) rfl
  have e17 : ∀ args w, (callFunc 17 args).run Tryz.prog w = .ok (.enter 17 args) w := enters_of Tryz.func17 (by kernel_rfl) rfl
  have e18 : ∀ args w, (callFunc 18 args).run Tryz.prog w = .ok (.enter 18 args) w := enters_of Tryz.func18 (by kernel_rfl) rfl
  have e19 : ∀ args w, (callFunc 19 args).run Tryz.prog w = .ok (.enter 19 args) w := enters_of Tryz.func19 (by kernel_rfl) rfl
  have e20 : ∀ args w, (callFunc 20 args).run Tryz.prog w = .ok (.enter 20 args) w := enters_of Tryz.func20 (by kernel_rfl) rfl
  have hl' : ¬ ((200 : Int) < (l.length : Int)) := by omega
  go_enter Tryz.func10, Tryz.ntmps10
  go_wp2
  go_loopg [12] l.length (fun g s12 wx => ∃ (i : Nat) (t : ByteArray), i + g = l.length ∧ s12 = .int .i64 i ∧ Lib.IsBuilder 45 5 w.heap.size w.heap.size (Lib.strCells t) wx ∧ Below w.heap.size w wx ∧ w.heap.size + 1 ≤ wx.heap.size ∧
      wrWith may txt l ⟨#[]⟩ = wrWith may txt (l.drop i) t ∧ t.size ≤ i * 2147483648)
  case atStart =>
    refine ⟨0, ⟨#[]⟩, by omega, rfl, ?_, (Below.refl _ w).alloc (Nat.le_refl _) _, by simp, rfl, Nat.zero_le _⟩
    have := fresh_isBuilder 45 5 w
    simpa [strCells] using this
  case round =>
    obtain ⟨i, t, hig, rfl, hb, hbel, hsz, hwr, hts⟩ := hrel
    have hW : Wd wr := hw.below hbel
    cases gk with
    | zero =>
      obtain rfl : i = l.length := by omega
      have hc0 : wrWith may txt (l.drop l.length) t = some t := by rw [List.drop_length]; rfl
      rw [hc0] at hwr
      clear hc0 hcells hMay hTxt hSz
      go_wp2_with (go_at_fn 19; refine (hZ _ hW).mono ?_)
      rintro e w1 ⟨rfl, h1⟩
      go_wp2_with (go_at_fn 17; refine (writeString_ok w.heap.size w.heap.size _ _ _ (bld_below hb h1) (by rw [strCells_length]; omega) (by have := h1.size; omega)).mono ?_)
      rintro e w2 ⟨rfl, h2, h3⟩
      have hbs : strCells t ++ strCells zt = byteCells (t ++ zt).data.toList := by simp [strCells, byteCells]
      rw [hbs] at h2
      go_wp2_with (go_at_fn 20; refine (Tryz.Builder_String_any_f w.heap.size w.heap.size _ _ (.of (.inr h2)) (by have := h1.size; have := h3.size; omega)).mono ?_)
      rintro e w3 ⟨rfl, _, h4⟩
      go_wp2
      go_ret2
      refine ⟨?_, (hbel.trans (h1.mono (by omega))).trans (h3.trans h4)⟩
      rw [hwr]
      have e1 : (⟨(t.data.toList ++ zt.data.toList).toArray⟩ : ByteArray) = t ++ zt := by
        refine ByteArray.ext ?_
        show (t.data.toList ++ zt.data.toList).toArray = (t ++ zt).data
        simp
      show Ending.returned (.tuple #[.string ⟨(t.data.toList ++ zt.data.toList).toArray⟩, .int .i64 0]) = Ending.returned (.tuple #[.string (t ++ zt), .int .i64 0])
      rw [e1]
    | succ g =>
      have hi : i < l.length := by omega
      have hiz : (i : Int) < (l.length : Int) := by omega
      obtain ⟨x, hx⟩ : ∃ x, l[i]? = some x := ⟨l[i], List.getElem?_eq_getElem hi⟩
      have hxz := hz x (List.mem_of_getElem? hx)
      have hr := hcells i x hx
      have k0 : wr.cell? ⟨pb, o + i * 5, none⟩ = some (.int .i64 x.1) := by rw [hbel.cell hpb]; exact hr 0 _ rfl
      have k1 : wr.cell? ⟨pb, o + i * 5 + 1, none⟩ = some (.string x.2.1) := by rw [hbel.cell hpb]; exact hr 1 _ rfl
      have k2 : wr.cell? ⟨pb, o + i * 5 + 2, none⟩ = some (.string x.2.2.1) := by rw [hbel.cell hpb]; exact hr 2 _ rfl
      have k3 : wr.cell? ⟨pb, o + i * 5 + 3, none⟩ = some (.int .i64 x.2.2.2.1) := by rw [hbel.cell hpb]; exact hr 3 _ rfl
      have k4 : wr.cell? ⟨pb, o + i * 5 + 4, none⟩ = some (.string x.2.2.2.2.1) := by rw [hbel.cell hpb]; exact hr 4 _ rfl
      have hm := hMay x
      have ht := hTxt x
      have hsx := hSz x hxz
      clear hr hcells hMay hTxt hSz hz
      have hW1 : Wd (wr.alloc (.cells (entA x) 29)) := hW.below ((Below.refl _ wr).alloc (Nat.le_refl _) _)
      go_wp2_with (go_at_fn 16; refine (hm _ hW1 hxz).mono ?_)
      rintro e w1 ⟨rfl, h1⟩
      have hd : l.drop i = x :: l.drop (i + 1) := by
        rw [List.drop_eq_getElem_cons hi]
        rw [List.getElem?_eq_getElem hi] at hx
        rw [Option.some.inj hx]
      have hbx := (hbel.alloc (o := .cells (entA x) 29) (by omega)).trans (h1.mono (by have := Array.size_push (xs := wr.heap) (Obj.cells (entA x) 29); simp; omega))
      have hW2 : Wd w1 := hw.below hbx
      have hb0 : w1.heap[wr.heap.size]? = some (.cells (entA x) 29 (0, 0)) := by
        rw [h1.block _ (by simp)]
        exact heap_alloc_last _ _
      cases hmx : may x with
      | false =>
        rw [hd, wrWith, hmx, cond_false] at hwr
        clear hd hb0
        go_wp2
        go_ret2
        refine ⟨?_, hbx⟩
        rw [hwr]
        rfl
      | true =>
        rw [hd, wrWith, hmx, cond_true] at hwr
        have j0 : w1.cell? ⟨wr.heap.size, 0, none⟩ = some (.int .i64 x.1) := by rw [cell_of_heap hb0]; rfl
        have j1 : w1.cell? ⟨wr.heap.size, 1, none⟩ = some (.string x.2.1) := by rw [cell_of_heap hb0]; rfl
        have j2 : w1.cell? ⟨wr.heap.size, 2, none⟩ = some (.string x.2.2.1) := by rw [cell_of_heap hb0]; rfl
        have j3 : w1.cell? ⟨wr.heap.size, 3, none⟩ = some (.int .i64 x.2.2.2.1) := by rw [cell_of_heap hb0]; rfl
        have j4 : w1.cell? ⟨wr.heap.size, 4, none⟩ = some (.string x.2.2.2.2.1) := by rw [cell_of_heap hb0]; rfl
        have hs1 := h1.size
        have hs2 : (wr.alloc (.cells (entA x) 29)).heap.size = wr.heap.size + 1 := by simp
        have hbw1 : Below wr.heap.size wr w1 := ((Below.refl _ wr).alloc (Nat.le_refl _) _).trans (h1.mono (by omega))
        clear hd hb0
        go_wp2_with (go_at_fn 18; refine (ht _ hW2 hxz hmx).mono ?_)
        rintro e w2 ⟨rfl, h2⟩
        go_wp2_with (go_at_fn 17; refine (writeString_ok w.heap.size w.heap.size _ _ _ (bld_below (bld_below hb hbw1) h2) (by rw [strCells_length]; omega) (by have := h2.size; omega)).mono ?_)
        rintro e w3 ⟨rfl, h3, h4⟩
        have hbs : strCells t ++ strCells (txt x) = strCells (t ++ txt x) := by simp [strCells]
        rw [hbs] at h3
        go_wp2
        go_roundg g
        case measure => omega
        case rel =>
          refine ⟨i + 1, t ++ txt x, by omega, by simp, .inr h3, (hbx.trans (h2.mono (by omega))).trans h4, by have := h4.size; have := h2.size; omega, hwr, by rw [ByteArray.size_append]; omega⟩
set_option maxHeartbeats 4000000 in
set_option maxRecDepth 1000000 in
theorem write_nil (zt : ByteArray) (hZ : ∀ w, Wd w → Calls Tryz.prog 19 #[.int .i64 1024] w fun e w' => e = .returned (.string zt) ∧ Below w.heap.size w w') (hzt : zt.size = 1024)
    (ad : Option Addr) (c : Nat) (w : World) (hw : Wd w) :
    Calls Tryz.prog 10 #[.slice ad 0 c] w fun e w' => e = .returned (.tuple #[.string zt, .int .i64 0]) ∧ Below w.heap.size w w' := by
  have mixed : (Tryz.prog).follows .mixedOrders = true := by kernel_rfl
  have t3 := Tryz.underlying3; have a3 := Tryz.isAgg3; have z3 := Tryz.sizeOf3; have v3 := Tryz.zeroValue3; have u3 := run_underlying Tryz.underlying3
  have t4 := Tryz.underlying4; have a4 := Tryz.isAgg4; have z4 := Tryz.sizeOf4; have v4 := Tryz.zeroValue4; have u4 := run_underlying Tryz.underlying4
  have t9 := Tryz.underlying9; have a9 := Tryz.isAgg9; have z9 := Tryz.sizeOf9; have v9 := Tryz.zeroValue9; have u9 := run_underlying Tryz.underlying9
  have t22 := Tryz.underlying22; have a22 := Tryz.isAgg22; have z22 := Tryz.sizeOf22; have v22 := Tryz.zeroValue22; have u22 := run_underlying Tryz.underlying22
  have t29 := Tryz.underlying29; have z29 := Tryz.sizeOf29; have v29 := Tryz.zeroValue29; have u29 := run_underlying Tryz.underlying29
  have v45 := Tryz.zeroValue45
  have t25 := Tryz.underlying25; have a25 := Tryz.isAgg25
  have e16 : ∀ args w, (callFunc 16 args).run Tryz.prog w = .ok (.enter 16 args) w := enters_of Tryz.func16 (by kernel_rfl) rfl
  have e17 : ∀ args w, (callFunc 17 args).run Tryz.prog w = .ok (.enter 17 args) w := enters_of Tryz.func17 (by kernel_rfl) rfl
  have e18 : ∀ args w, (callFunc 18 args).run Tryz.prog w = .ok (.enter 18 args) w := enters_of Tryz.func18 (by kernel_rfl) rfl
  have e19 : ∀ args w, (callFunc 19 args).run Tryz.prog w = .ok (.enter 19 args) w := enters_of Tryz.func19 (by kernel_rfl) rfl
  have e20 : ∀ args w, (callFunc 20 args).run Tryz.prog w = .ok (.enter 20 args) w := enters_of Tryz.func20 (by kernel_rfl) rfl
  go_enter Tryz.func10, Tryz.ntmps10
  go_wp2
  go_loopg [12] 0 (fun g s12 wx => s12 = .int .i64 0 ∧ wx = w.alloc (.cells #[.pointer none, .slice none 0 0] 45))
  case atStart => exact ⟨rfl, rfl⟩
  case round =>
    obtain ⟨rfl, rfl⟩ := hrel
    have hb := fresh_isBuilder 45 5 w
    have hbel : Below w.heap.size w (w.alloc (.cells #[.pointer none, .slice none 0 0] 45)) := (Below.refl _ w).alloc (Nat.le_refl _) _
    have hW : Wd (w.alloc (.cells #[.pointer none, .slice none 0 0] 45)) := hw.below hbel
    have hsz : w.heap.size + 1 ≤ (w.alloc (.cells #[.pointer none, .slice none 0 0] 45)).heap.size := by simp
    go_wp2_with (go_at_fn 19; refine (hZ _ hW).mono ?_)
    rintro e w1 ⟨rfl, h1⟩
    go_wp2_with (go_at_fn 17; refine (writeString_ok w.heap.size w.heap.size _ _ _ (bld_below hb h1) (by simp; omega) (by have := h1.size; omega)).mono ?_)
    rintro e w2 ⟨rfl, h2, h3⟩
    have hbs : [] ++ strCells zt = byteCells zt.data.toList := by simp [strCells, byteCells]
    rw [hbs] at h2
    go_wp2_with (go_at_fn 20; refine (Tryz.Builder_String_any_f w.heap.size w.heap.size _ _ (.of (.inr h2)) (by have := h1.size; have := h3.size; omega)).mono ?_)
    rintro e w3 ⟨rfl, _, h4⟩
    go_wp2
    go_ret2
    refine ⟨?_, (hbel.trans (h1.mono (by omega))).trans (h3.trans h4)⟩
    rfl
set_option maxHeartbeats 4000000 in
set_option maxRecDepth 1000000 in
theorem write_many (ad : Option Addr) (n c : Nat) (hn : 200 < n) (w : World) :
    Calls Tryz.prog 10 #[.slice ad n c] w fun e w' => e = .returned (.tuple #[.string ⟨#[]⟩, .int .i64 63]) ∧ Below w.heap.size w w' := by
  have mixed : (Tryz.prog).follows .mixedOrders = true := by kernel_rfl
  have t3 := Tryz.underlying3; have a3 := Tryz.isAgg3; have z3 := Tryz.sizeOf3; have v3 := Tryz.zeroValue3; have u3 := run_underlying Tryz.underlying3
  have t4 := Tryz.underlying4; have a4 := Tryz.isAgg4; have z4 := Tryz.sizeOf4; have v4 := Tryz.zeroValue4; have u4 := run_underlying Tryz.underlying4
  have t9 := Tryz.underlying9; have a9 := Tryz.isAgg9; have z9 := Tryz.sizeOf9; have v9 := Tryz.zeroValue9; have u9 := run_underlying Tryz.underlying9
  have t22 := Tryz.underlying22; have a22 := Tryz.isAgg22; have z22 := Tryz.sizeOf22; have v22 := Tryz.zeroValue22; have u22 := run_underlying Tryz.underlying22
  have t29 := Tryz.underlying29; have z29 := Tryz.sizeOf29; have v29 := Tryz.zeroValue29; have u29 := run_underlying Tryz.underlying29
  have v45 := Tryz.zeroValue45
  have t25 := Tryz.underlying25; have a25 := Tryz.isAgg25
  have e16 : ∀ args w, (callFunc 16 args).run Tryz.prog w = .ok (.enter 16 args) w := enters_of Tryz.func16 (by kernel_rfl) rfl
  have e17 : ∀ args w, (callFunc 17 args).run Tryz.prog w = .ok (.enter 17 args) w := enters_of Tryz.func17 (by kernel_rfl) rfl
  have e18 : ∀ args w, (callFunc 18 args).run Tryz.prog w = .ok (.enter 18 args) w := enters_of Tryz.func18 (by kernel_rfl) rfl
  have e19 : ∀ args w, (callFunc 19 args).run Tryz.prog w = .ok (.enter 19 args) w := enters_of Tryz.func19 (by kernel_rfl) rfl
  have e20 : ∀ args w, (callFunc 20 args).run Tryz.prog w = .ok (.enter 20 args) w := enters_of Tryz.func20 (by kernel_rfl) rfl
  have hl' : (200 : Int) < (n : Int) := by omega
  go_enter Tryz.func10, Tryz.ntmps10
  go_wp2
  go_ret2
  exact ⟨rfl, Below.refl _ _⟩
end Go.Proofs.YtbgilaacfbinbaaGreatDoor.PM

namespace Go.Proofs.YtbgilaacfbinbaaGreatDoor.PM
open Go Go.Proofs Go.RowKit
set_option maxRecDepth 100000
set_option linter.unusedVariables false
set_option linter.unusedSimpArgs false

def entMay (x : Ent) : Bool := mayR x.1 x.2.1 x.2.2.1 x.2.2.2.1 x.2.2.2.2.1
def entTxt (x : Ent) : ByteArray := entS x.1 x.2.1 x.2.2.1 x.2.2.2.1 x.2.2.2.2.1
theorem mayR_k {k : Int} {n d : ByteArray} {m : Int} {b : ByteArray} (h : mayR k n d m b = true) : 1 ≤ k ∧ k ≤ 4 ∧ 0 ≤ m ∧ m < 4096 := by
  rw [← may_same] at h
  simp only [mayP, Bool.and_eq_true, decide_eq_true_eq] at h
  omega
theorem fullT_size (b : ByteArray) : (fullT b).size ≤ b.size + 511 := by
  unfold fullT
  rw [ByteArray.size_append, zs_size]
  omega
theorem entS_size {k : Int} {n d : ByteArray} {m : Int} {b : ByteArray} (hn : n.size ≤ 400) (hd : d.size ≤ 400) : (entS k n d m b).size ≤ b.size + 10000 := by
  have hN : ∀ m, m ≤ 900 → recN m ≤ 906 := fun m h => by unfold recN; split <;> first | omega | (split <;> omega)
  have r1 : (recS ⟨#[112, 97, 116, 104]⟩ n).size ≤ 906 := by
    have h9 : (ByteArray.mk #[112, 97, 116, 104]).size + n.size ≤ 900 := by show 4 + n.size ≤ 900; omega
    rw [recS_size _ n h9]; exact hN _ h9
  have r2 : (recS ⟨#[108, 105, 110, 107, 112, 97, 116, 104]⟩ d).size ≤ 906 := by
    have h9 : (ByteArray.mk #[108, 105, 110, 107, 112, 97, 116, 104]).size + d.size ≤ 900 := by show 8 + d.size ≤ 900; omega
    rw [recS_size _ d h9]; exact hN _ h9
  have hm : (moreS n d).size ≤ 1812 := by
    unfold moreS
    rw [ByteArray.size_append]
    have z0 : (ByteArray.mk #[]).size = 0 := rfl
    cases decide ((n.size : Int) > 100) <;> cases decide ((d.size : Int) > 100) <;> simp only [cnd_t, cnd_f] <;> omega
  have ha : (aheadS (moreS n d)).size ≤ 5000 := by
    unfold aheadS
    cases isS (moreS n d) [] with
    | true => exact Nat.zero_le _
    | false =>
      rw [cnd_f, ByteArray.size_append, headS_size]
      have := fullT_size (moreS n d)
      omega
  unfold entS restS
  rw [ByteArray.size_append, ByteArray.size_append, headS_size]
  have := fullT_size b
  omega
/-- The bytes of entries behind others; none: one may not be. -/
abbrev wrFrom : List Ent → ByteArray → Option ByteArray := wrWith entMay entTxt
theorem rkind {k : Int} (h1 : 1 ≤ k) (h4 : k ≤ 4) : (ByteArray.mk #[32, 48, 53, 49, 50]).extract k.toNat (k + 1).toNat = kindT (kindB k) := by
  have : k = 1 ∨ k = 2 ∨ k = 3 ∨ k = 4 := by omega
  rcases this with rfl | rfl | rfl | rfl <;> rfl
section
variable (mayF : Int → ByteArray → ByteArray → Int → ByteArray → Bool) (recF : ByteArray → ByteArray → ByteArray) (headF : ByteArray → ByteArray → Nat → Nat → ByteArray → ByteArray) (fullF : ByteArray → ByteArray)
def mayX : Pure
  | [.agg ⟨[.int .i64 k, .string n, .string d, .int .i64 m, .string b]⟩] => some (n.size < 2 ^ 62 ∧ d.size < 2 ^ 62, .bool (mayF k n d m b))
  | _ => none
def recX : Pure
  | [.string key, .string value] => some (key.size < 2 ^ 30 ∧ value.size < 2 ^ 30, .string (recF key value))
  | _ => none
def headX : Pure
  | [.string name, .string dest, .int .i64 mode, .int .i64 size, .string kind] => some ((name.size < 2 ^ 40 ∧ dest.size < 2 ^ 40) ∧ 0 ≤ mode ∧ mode < 2 ^ 62 ∧ 0 ≤ size ∧ size < 2 ^ 62 ∧ kind.size = 1, .string (headF name dest mode.toNat size.toNat kind))
  | _ => none
def fullX : Pure
  | [.string s] => some (s.size < 2 ^ 40, .string (fullF s))
  | _ => none
abbrev call11 : FuncId → Spec := callOf [(21, pureS (mayX mayF)), (22, pureS (recX recF)), (23, pureS (headX headF)), (24, pureS (fullX fullF)), (25, pureS zerosG)]
abbrev exit11 (l : List Ent) (K : Kont) (t : ByteArray) : Prop := K (.exit 0) [(4, .string t)] [.row entC 5 l .ro]
abbrev ret11 (l : List Ent) (K : Kont) : Prop := ∀ x : List Value, K .ret [(2, .string ⟨#[]⟩), (3, .int .i64 2)] [.row entC 5 l .ro, .row raw 5 [x] .own]
def aheadF (s : ByteArray) : ByteArray := bif isS s [] then ⟨#[]⟩ else headF ⟨#[112, 97, 120]⟩ ⟨#[]⟩ 0 s.size ⟨#[120]⟩ ++ fullF s
def moreF (n d : ByteArray) : ByteArray := (bif decide ((n.size : Int) > 100) then recF ⟨#[112, 97, 116, 104]⟩ n else ⟨#[]⟩) ++ (bif decide ((d.size : Int) > 100) then recF ⟨#[108, 105, 110, 107, 112, 97, 116, 104]⟩ d else ⟨#[]⟩)
def kindX (k : Int) : ByteArray := (ByteArray.mk #[32, 48, 53, 49, 50]).extract k.toNat (k + 1).toNat
def txtF (k : Int) (n d : ByteArray) (m : Int) (b : ByteArray) : ByteArray := (aheadF headF fullF (moreF recF n d) ++ headF n d m.toNat b.size (kindX k)) ++ fullF b
theorem rw_step (hhead : ∀ n d m b k, k.size = 1 → (headF n d m b k).size = 512) (hfull : ∀ s, (fullF s).size ≤ s.size + 511) (hrec : ∀ a n, a.size + n.size ≤ 900 → (recF a n).size ≤ 906)
    (l : List Ent) (c : Nat) (hl : l.length ≤ 200) (K : Kont) (kk i : Nat) (s : ByteArray) (hs : s.size < 2 ^ 39)
    (hexit : ¬ i < l.length → exit11 l K s)
    (hx : ∀ (k : Int) (n d : ByteArray) (m : Int) (b : ByteArray) (u : Unit), l[i]? = some (k, n, d, m, b, u) → (n.size ≤ 400 ∧ d.size ≤ 400 ∧ b.size < 2 ^ 30) ∧ (mayF k n d m b = false → ret11 l K) ∧
      (mayF k n d m b = true → (1 ≤ k ∧ k ≤ 4 ∧ 0 ≤ m ∧ m < 4096) ∧ ∀ t, t = s ++ txtF recF headF fullF k n d m b →
        rnds Tryz.prog (call11 mayF recF headF fullF) (hints 11) noTab kk (lp Tryz.f11 5) [(0, .slice (some ⟨0, 0, none⟩) l.length c), (4, .string t), (5, .int .i64 ((i + 1 : Nat) : Int))] [.row entC 5 l .ro] K)) :
    rnds Tryz.prog (call11 mayF recF headF fullF) (hints 11) noTab (kk + 1) (lp Tryz.f11 5) [(0, .slice (some ⟨0, 0, none⟩) l.length c), (4, .string s), (5, .int .i64 (i : Int))] [.row entC 5 l .ro] K := by
    refine toR (R := share ((((ByteArray.size (l.getD (0 + (↑i : Int).toNat) ((0 : (FK.i .i64).T), (ByteArray.mk #[]), (ByteArray.mk #[]), (0 : (FK.i .i64).T), (ByteArray.mk #[]), ())).snd.fst) < 1099511627776) ∧ ((ByteArray.size (l.getD (0 + (↑i : Int).toNat) ((0 : (FK.i .i64).T), (ByteArray.mk #[]), (ByteArray.mk #[]), (0 : (FK.i .i64).T), (ByteArray.mk #[]), ())).snd.snd.fst) < 1099511627776)) ∧ (((0 : Int) ≤ (l.getD (0 + (↑i : Int).toNat) ((0 : (FK.i .i64).T), (ByteArray.mk #[]), (ByteArray.mk #[]), (0 : (FK.i .i64).T), (ByteArray.mk #[]), ())).snd.snd.snd.fst) ∧ (((l.getD (0 + (↑i : Int).toNat) ((0 : (FK.i .i64).T), (ByteArray.mk #[]), (ByteArray.mk #[]), (0 : (FK.i .i64).T), (ByteArray.mk #[]), ())).snd.snd.snd.fst < ((2 : Int) ^ 62)) ∧ (((0 : Int) ≤ (↑(ByteArray.size (l.getD (0 + (↑i : Int).toNat) ((0 : (FK.i .i64).T), (ByteArray.mk #[]), (ByteArray.mk #[]), (0 : (FK.i .i64).T), (ByteArray.mk #[]), ())).snd.snd.snd.snd.fst) : Int)) ∧ (((↑(ByteArray.size (l.getD (0 + (↑i : Int).toNat) ((0 : (FK.i .i64).T), (ByteArray.mk #[]), (ByteArray.mk #[]), (0 : (FK.i .i64).T), (ByteArray.mk #[]), ())).snd.snd.snd.snd.fst) : Int) < ((2 : Int) ^ 62)) ∧ (((ByteArray.mk #[32, 48, 53, 49, 50]).extract (Int.toNat (l.getD (0 + (↑i : Int).toNat) ((0 : (FK.i .i64).T), (ByteArray.mk #[]), (ByteArray.mk #[]), (0 : (FK.i .i64).T), (ByteArray.mk #[]), ())).fst) (IntKind.i64.wrap ((l.getD (0 + (↑i : Int).toNat) ((0 : (FK.i .i64).T), (ByteArray.mk #[]), (ByteArray.mk #[]), (0 : (FK.i .i64).T), (ByteArray.mk #[]), ())).fst + (1 : Int))).toNat).size = 1)))))) fun p0 => share (need ((((decide ((0 : Int) ≤ (l.getD (0 + (↑i : Int).toNat) ((0 : (FK.i .i64).T), (ByteArray.mk #[]), (ByteArray.mk #[]), (0 : (FK.i .i64).T), (ByteArray.mk #[]), ())).fst)) && ((decide ((l.getD (0 + (↑i : Int).toNat) ((0 : (FK.i .i64).T), (ByteArray.mk #[]), (ByteArray.mk #[]), (0 : (FK.i .i64).T), (ByteArray.mk #[]), ())).fst ≤ (IntKind.i64.wrap ((l.getD (0 + (↑i : Int).toNat) ((0 : (FK.i .i64).T), (ByteArray.mk #[]), (ByteArray.mk #[]), (0 : (FK.i .i64).T), (ByteArray.mk #[]), ())).fst + (1 : Int))))) && (decide ((IntKind.i64.wrap ((l.getD (0 + (↑i : Int).toNat) ((0 : (FK.i .i64).T), (ByteArray.mk #[]), (ByteArray.mk #[]), (0 : (FK.i .i64).T), (ByteArray.mk #[]), ())).fst + (1 : Int))) ≤ (↑5 : Int))))) && true) && true) (p0 ∧ (need (((decide ((s.size + (headF (l.getD (0 + (↑i : Int).toNat) ((0 : (FK.i .i64).T), (ByteArray.mk #[]), (ByteArray.mk #[]), (0 : (FK.i .i64).T), (ByteArray.mk #[]), ())).snd.fst (l.getD (0 + (↑i : Int).toNat) ((0 : (FK.i .i64).T), (ByteArray.mk #[]), (ByteArray.mk #[]), (0 : (FK.i .i64).T), (ByteArray.mk #[]), ())).snd.snd.fst (Int.toNat (l.getD (0 + (↑i : Int).toNat) ((0 : (FK.i .i64).T), (ByteArray.mk #[]), (ByteArray.mk #[]), (0 : (FK.i .i64).T), (ByteArray.mk #[]), ())).snd.snd.snd.fst) (↑(ByteArray.size (l.getD (0 + (↑i : Int).toNat) ((0 : (FK.i .i64).T), (ByteArray.mk #[]), (ByteArray.mk #[]), (0 : (FK.i .i64).T), (ByteArray.mk #[]), ())).snd.snd.snd.snd.fst) : Int).toNat ((ByteArray.mk #[32, 48, 53, 49, 50]).extract (Int.toNat (l.getD (0 + (↑i : Int).toNat) ((0 : (FK.i .i64).T), (ByteArray.mk #[]), (ByteArray.mk #[]), (0 : (FK.i .i64).T), (ByteArray.mk #[]), ())).fst) (IntKind.i64.wrap ((l.getD (0 + (↑i : Int).toNat) ((0 : (FK.i .i64).T), (ByteArray.mk #[]), (ByteArray.mk #[]), (0 : (FK.i .i64).T), (ByteArray.mk #[]), ())).fst + (1 : Int))).toNat)).size) < 9223372036854775808)) && true) && true) (((ByteArray.size (l.getD (0 + (↑i : Int).toNat) ((0 : (FK.i .i64).T), (ByteArray.mk #[]), (ByteArray.mk #[]), (0 : (FK.i .i64).T), (ByteArray.mk #[]), ())).snd.snd.snd.snd.fst) < 1099511627776) ∧ (need (((decide (((s ++ (headF (l.getD (0 + (↑i : Int).toNat) ((0 : (FK.i .i64).T), (ByteArray.mk #[]), (ByteArray.mk #[]), (0 : (FK.i .i64).T), (ByteArray.mk #[]), ())).snd.fst (l.getD (0 + (↑i : Int).toNat) ((0 : (FK.i .i64).T), (ByteArray.mk #[]), (ByteArray.mk #[]), (0 : (FK.i .i64).T), (ByteArray.mk #[]), ())).snd.snd.fst (Int.toNat (l.getD (0 + (↑i : Int).toNat) ((0 : (FK.i .i64).T), (ByteArray.mk #[]), (ByteArray.mk #[]), (0 : (FK.i .i64).T), (ByteArray.mk #[]), ())).snd.snd.snd.fst) (↑(ByteArray.size (l.getD (0 + (↑i : Int).toNat) ((0 : (FK.i .i64).T), (ByteArray.mk #[]), (ByteArray.mk #[]), (0 : (FK.i .i64).T), (ByteArray.mk #[]), ())).snd.snd.snd.snd.fst) : Int).toNat ((ByteArray.mk #[32, 48, 53, 49, 50]).extract (Int.toNat (l.getD (0 + (↑i : Int).toNat) ((0 : (FK.i .i64).T), (ByteArray.mk #[]), (ByteArray.mk #[]), (0 : (FK.i .i64).T), (ByteArray.mk #[]), ())).fst) (IntKind.i64.wrap ((l.getD (0 + (↑i : Int).toNat) ((0 : (FK.i .i64).T), (ByteArray.mk #[]), (ByteArray.mk #[]), (0 : (FK.i .i64).T), (ByteArray.mk #[]), ())).fst + (1 : Int))).toNat))).size + (fullF (l.getD (0 + (↑i : Int).toNat) ((0 : (FK.i .i64).T), (ByteArray.mk #[]), (ByteArray.mk #[]), (0 : (FK.i .i64).T), (ByteArray.mk #[]), ())).snd.snd.snd.snd.fst).size) < 9223372036854775808)) && true) && true) (rnds Tryz.prog (call11 mayF recF headF fullF) (hints 11) noTab kk (lp Tryz.f11 5) [(0, (.slice (some (Addr.mk 0 0 none)) l.length c)), (4, (.string ((s ++ (headF (l.getD (0 + (↑i : Int).toNat) ((0 : (FK.i .i64).T), (ByteArray.mk #[]), (ByteArray.mk #[]), (0 : (FK.i .i64).T), (ByteArray.mk #[]), ())).snd.fst (l.getD (0 + (↑i : Int).toNat) ((0 : (FK.i .i64).T), (ByteArray.mk #[]), (ByteArray.mk #[]), (0 : (FK.i .i64).T), (ByteArray.mk #[]), ())).snd.snd.fst (Int.toNat (l.getD (0 + (↑i : Int).toNat) ((0 : (FK.i .i64).T), (ByteArray.mk #[]), (ByteArray.mk #[]), (0 : (FK.i .i64).T), (ByteArray.mk #[]), ())).snd.snd.snd.fst) (↑(ByteArray.size (l.getD (0 + (↑i : Int).toNat) ((0 : (FK.i .i64).T), (ByteArray.mk #[]), (ByteArray.mk #[]), (0 : (FK.i .i64).T), (ByteArray.mk #[]), ())).snd.snd.snd.snd.fst) : Int).toNat ((ByteArray.mk #[32, 48, 53, 49, 50]).extract (Int.toNat (l.getD (0 + (↑i : Int).toNat) ((0 : (FK.i .i64).T), (ByteArray.mk #[]), (ByteArray.mk #[]), (0 : (FK.i .i64).T), (ByteArray.mk #[]), ())).fst) (IntKind.i64.wrap ((l.getD (0 + (↑i : Int).toNat) ((0 : (FK.i .i64).T), (ByteArray.mk #[]), (ByteArray.mk #[]), (0 : (FK.i .i64).T), (ByteArray.mk #[]), ())).fst + (1 : Int))).toNat))) ++ (fullF (l.getD (0 + (↑i : Int).toNat) ((0 : (FK.i .i64).T), (ByteArray.mk #[]), (ByteArray.mk #[]), (0 : (FK.i .i64).T), (ByteArray.mk #[]), ())).snd.snd.snd.snd.fst)))), (5, (.int .i64 (IntKind.i64.wrap ((↑i : Int) + (1 : Int)))))] [(VB.row (flatC [(FK.i .i64), FK.s, FK.s, (FK.i .i64), FK.s]) 5 l .ro)] K)))))) fun p1 => bcase (decide ((↑i : Int) < (↑l.length : Int))) (need (decide ((↑i : Int) < (↑l.length : Int))) (need ((decide ((0 + (↑i : Int).toNat) < l.length)) && true) ((((ByteArray.size (l.getD (0 + (↑i : Int).toNat) ((0 : (FK.i .i64).T), (ByteArray.mk #[]), (ByteArray.mk #[]), (0 : (FK.i .i64).T), (ByteArray.mk #[]), ())).snd.fst) < 4611686018427387904) ∧ ((ByteArray.size (l.getD (0 + (↑i : Int).toNat) ((0 : (FK.i .i64).T), (ByteArray.mk #[]), (ByteArray.mk #[]), (0 : (FK.i .i64).T), (ByteArray.mk #[]), ())).snd.snd.fst) < 4611686018427387904)) ∧ (bcase (!(mayF (l.getD (0 + (↑i : Int).toNat) ((0 : (FK.i .i64).T), (ByteArray.mk #[]), (ByteArray.mk #[]), (0 : (FK.i .i64).T), (ByteArray.mk #[]), ())).fst (l.getD (0 + (↑i : Int).toNat) ((0 : (FK.i .i64).T), (ByteArray.mk #[]), (ByteArray.mk #[]), (0 : (FK.i .i64).T), (ByteArray.mk #[]), ())).snd.fst (l.getD (0 + (↑i : Int).toNat) ((0 : (FK.i .i64).T), (ByteArray.mk #[]), (ByteArray.mk #[]), (0 : (FK.i .i64).T), (ByteArray.mk #[]), ())).snd.snd.fst (l.getD (0 + (↑i : Int).toNat) ((0 : (FK.i .i64).T), (ByteArray.mk #[]), (ByteArray.mk #[]), (0 : (FK.i .i64).T), (ByteArray.mk #[]), ())).snd.snd.snd.fst (l.getD (0 + (↑i : Int).toNat) ((0 : (FK.i .i64).T), (ByteArray.mk #[]), (ByteArray.mk #[]), (0 : (FK.i .i64).T), (ByteArray.mk #[]), ())).snd.snd.snd.snd.fst)) (K .ret [(2, (.string (ByteArray.mk #[]))), (3, (.int .i64 (2 : Int)))] [(VB.row (flatC [(FK.i .i64), FK.s, FK.s, (FK.i .i64), FK.s]) 5 l .ro), (VB.row raw 5 [[(.int .i64 (l.getD (0 + (↑i : Int).toNat) ((0 : (FK.i .i64).T), (ByteArray.mk #[]), (ByteArray.mk #[]), (0 : (FK.i .i64).T), (ByteArray.mk #[]), ())).fst), (.string (l.getD (0 + (↑i : Int).toNat) ((0 : (FK.i .i64).T), (ByteArray.mk #[]), (ByteArray.mk #[]), (0 : (FK.i .i64).T), (ByteArray.mk #[]), ())).snd.fst), (.string (l.getD (0 + (↑i : Int).toNat) ((0 : (FK.i .i64).T), (ByteArray.mk #[]), (ByteArray.mk #[]), (0 : (FK.i .i64).T), (ByteArray.mk #[]), ())).snd.snd.fst), (.int .i64 (l.getD (0 + (↑i : Int).toNat) ((0 : (FK.i .i64).T), (ByteArray.mk #[]), (ByteArray.mk #[]), (0 : (FK.i .i64).T), (ByteArray.mk #[]), ())).snd.snd.snd.fst), (.string (l.getD (0 + (↑i : Int).toNat) ((0 : (FK.i .i64).T), (ByteArray.mk #[]), (ByteArray.mk #[]), (0 : (FK.i .i64).T), (ByteArray.mk #[]), ())).snd.snd.snd.snd.fst)]] .own)]) (bcase (decide ((↑(ByteArray.size (l.getD (0 + (↑i : Int).toNat) ((0 : (FK.i .i64).T), (ByteArray.mk #[]), (ByteArray.mk #[]), (0 : (FK.i .i64).T), (ByteArray.mk #[]), ())).snd.fst) : Int) > (100 : Int))) (((4 < 1073741824) ∧ ((ByteArray.size (l.getD (0 + (↑i : Int).toNat) ((0 : (FK.i .i64).T), (ByteArray.mk #[]), (ByteArray.mk #[]), (0 : (FK.i .i64).T), (ByteArray.mk #[]), ())).snd.fst) < 1073741824)) ∧ (bcase (decide ((↑(ByteArray.size (l.getD (0 + (↑i : Int).toNat) ((0 : (FK.i .i64).T), (ByteArray.mk #[]), (ByteArray.mk #[]), (0 : (FK.i .i64).T), (ByteArray.mk #[]), ())).snd.snd.fst) : Int) > (100 : Int))) (((8 < 1073741824) ∧ ((ByteArray.size (l.getD (0 + (↑i : Int).toNat) ((0 : (FK.i .i64).T), (ByteArray.mk #[]), (ByteArray.mk #[]), (0 : (FK.i .i64).T), (ByteArray.mk #[]), ())).snd.snd.fst) < 1073741824)) ∧ (need (decide (((recF (ByteArray.mk #[112, 97, 116, 104]) (l.getD (0 + (↑i : Int).toNat) ((0 : (FK.i .i64).T), (ByteArray.mk #[]), (ByteArray.mk #[]), (0 : (FK.i .i64).T), (ByteArray.mk #[]), ())).snd.fst).size + (recF (ByteArray.mk #[108, 105, 110, 107, 112, 97, 116, 104]) (l.getD (0 + (↑i : Int).toNat) ((0 : (FK.i .i64).T), (ByteArray.mk #[]), (ByteArray.mk #[]), (0 : (FK.i .i64).T), (ByteArray.mk #[]), ())).snd.snd.fst).size) < 9223372036854775808)) (bcase (!(((recF (ByteArray.mk #[112, 97, 116, 104]) (l.getD (0 + (↑i : Int).toNat) ((0 : (FK.i .i64).T), (ByteArray.mk #[]), (ByteArray.mk #[]), (0 : (FK.i .i64).T), (ByteArray.mk #[]), ())).snd.fst) ++ (recF (ByteArray.mk #[108, 105, 110, 107, 112, 97, 116, 104]) (l.getD (0 + (↑i : Int).toNat) ((0 : (FK.i .i64).T), (ByteArray.mk #[]), (ByteArray.mk #[]), (0 : (FK.i .i64).T), (ByteArray.mk #[]), ())).snd.snd.fst)).toList == (ByteArray.mk #[]).toList)) ((((3 < 1099511627776) ∧ (0 < 1099511627776)) ∧ (((0 : Int) ≤ (0 : Int)) ∧ (((0 : Int) < ((2 : Int) ^ 62)) ∧ (((0 : Int) ≤ (↑((recF (ByteArray.mk #[112, 97, 116, 104]) (l.getD (0 + (↑i : Int).toNat) ((0 : (FK.i .i64).T), (ByteArray.mk #[]), (ByteArray.mk #[]), (0 : (FK.i .i64).T), (ByteArray.mk #[]), ())).snd.fst) ++ (recF (ByteArray.mk #[108, 105, 110, 107, 112, 97, 116, 104]) (l.getD (0 + (↑i : Int).toNat) ((0 : (FK.i .i64).T), (ByteArray.mk #[]), (ByteArray.mk #[]), (0 : (FK.i .i64).T), (ByteArray.mk #[]), ())).snd.snd.fst)).size : Int)) ∧ (((↑((recF (ByteArray.mk #[112, 97, 116, 104]) (l.getD (0 + (↑i : Int).toNat) ((0 : (FK.i .i64).T), (ByteArray.mk #[]), (ByteArray.mk #[]), (0 : (FK.i .i64).T), (ByteArray.mk #[]), ())).snd.fst) ++ (recF (ByteArray.mk #[108, 105, 110, 107, 112, 97, 116, 104]) (l.getD (0 + (↑i : Int).toNat) ((0 : (FK.i .i64).T), (ByteArray.mk #[]), (ByteArray.mk #[]), (0 : (FK.i .i64).T), (ByteArray.mk #[]), ())).snd.snd.fst)).size : Int) < ((2 : Int) ^ 62)) ∧ (1 = 1)))))) ∧ (need (decide ((s.size + (headF (ByteArray.mk #[112, 97, 120]) (ByteArray.mk #[]) 0 (↑((recF (ByteArray.mk #[112, 97, 116, 104]) (l.getD (0 + (↑i : Int).toNat) ((0 : (FK.i .i64).T), (ByteArray.mk #[]), (ByteArray.mk #[]), (0 : (FK.i .i64).T), (ByteArray.mk #[]), ())).snd.fst) ++ (recF (ByteArray.mk #[108, 105, 110, 107, 112, 97, 116, 104]) (l.getD (0 + (↑i : Int).toNat) ((0 : (FK.i .i64).T), (ByteArray.mk #[]), (ByteArray.mk #[]), (0 : (FK.i .i64).T), (ByteArray.mk #[]), ())).snd.snd.fst)).size : Int).toNat (ByteArray.mk #[120])).size) < 9223372036854775808)) ((((recF (ByteArray.mk #[112, 97, 116, 104]) (l.getD (0 + (↑i : Int).toNat) ((0 : (FK.i .i64).T), (ByteArray.mk #[]), (ByteArray.mk #[]), (0 : (FK.i .i64).T), (ByteArray.mk #[]), ())).snd.fst) ++ (recF (ByteArray.mk #[108, 105, 110, 107, 112, 97, 116, 104]) (l.getD (0 + (↑i : Int).toNat) ((0 : (FK.i .i64).T), (ByteArray.mk #[]), (ByteArray.mk #[]), (0 : (FK.i .i64).T), (ByteArray.mk #[]), ())).snd.snd.fst)).size < 1099511627776) ∧ (need (decide (((s ++ (headF (ByteArray.mk #[112, 97, 120]) (ByteArray.mk #[]) 0 (↑((recF (ByteArray.mk #[112, 97, 116, 104]) (l.getD (0 + (↑i : Int).toNat) ((0 : (FK.i .i64).T), (ByteArray.mk #[]), (ByteArray.mk #[]), (0 : (FK.i .i64).T), (ByteArray.mk #[]), ())).snd.fst) ++ (recF (ByteArray.mk #[108, 105, 110, 107, 112, 97, 116, 104]) (l.getD (0 + (↑i : Int).toNat) ((0 : (FK.i .i64).T), (ByteArray.mk #[]), (ByteArray.mk #[]), (0 : (FK.i .i64).T), (ByteArray.mk #[]), ())).snd.snd.fst)).size : Int).toNat (ByteArray.mk #[120]))).size + (fullF ((recF (ByteArray.mk #[112, 97, 116, 104]) (l.getD (0 + (↑i : Int).toNat) ((0 : (FK.i .i64).T), (ByteArray.mk #[]), (ByteArray.mk #[]), (0 : (FK.i .i64).T), (ByteArray.mk #[]), ())).snd.fst) ++ (recF (ByteArray.mk #[108, 105, 110, 107, 112, 97, 116, 104]) (l.getD (0 + (↑i : Int).toNat) ((0 : (FK.i .i64).T), (ByteArray.mk #[]), (ByteArray.mk #[]), (0 : (FK.i .i64).T), (ByteArray.mk #[]), ())).snd.snd.fst))).size) < 9223372036854775808)) (need ((((decide ((0 : Int) ≤ (l.getD (0 + (↑i : Int).toNat) ((0 : (FK.i .i64).T), (ByteArray.mk #[]), (ByteArray.mk #[]), (0 : (FK.i .i64).T), (ByteArray.mk #[]), ())).fst)) && ((decide ((l.getD (0 + (↑i : Int).toNat) ((0 : (FK.i .i64).T), (ByteArray.mk #[]), (ByteArray.mk #[]), (0 : (FK.i .i64).T), (ByteArray.mk #[]), ())).fst ≤ (IntKind.i64.wrap ((l.getD (0 + (↑i : Int).toNat) ((0 : (FK.i .i64).T), (ByteArray.mk #[]), (ByteArray.mk #[]), (0 : (FK.i .i64).T), (ByteArray.mk #[]), ())).fst + (1 : Int))))) && (decide ((IntKind.i64.wrap ((l.getD (0 + (↑i : Int).toNat) ((0 : (FK.i .i64).T), (ByteArray.mk #[]), (ByteArray.mk #[]), (0 : (FK.i .i64).T), (ByteArray.mk #[]), ())).fst + (1 : Int))) ≤ (↑5 : Int))))) && true) && true) (p0 ∧ (need (((decide ((((s ++ (headF (ByteArray.mk #[112, 97, 120]) (ByteArray.mk #[]) 0 (↑((recF (ByteArray.mk #[112, 97, 116, 104]) (l.getD (0 + (↑i : Int).toNat) ((0 : (FK.i .i64).T), (ByteArray.mk #[]), (ByteArray.mk #[]), (0 : (FK.i .i64).T), (ByteArray.mk #[]), ())).snd.fst) ++ (recF (ByteArray.mk #[108, 105, 110, 107, 112, 97, 116, 104]) (l.getD (0 + (↑i : Int).toNat) ((0 : (FK.i .i64).T), (ByteArray.mk #[]), (ByteArray.mk #[]), (0 : (FK.i .i64).T), (ByteArray.mk #[]), ())).snd.snd.fst)).size : Int).toNat (ByteArray.mk #[120]))) ++ (fullF ((recF (ByteArray.mk #[112, 97, 116, 104]) (l.getD (0 + (↑i : Int).toNat) ((0 : (FK.i .i64).T), (ByteArray.mk #[]), (ByteArray.mk #[]), (0 : (FK.i .i64).T), (ByteArray.mk #[]), ())).snd.fst) ++ (recF (ByteArray.mk #[108, 105, 110, 107, 112, 97, 116, 104]) (l.getD (0 + (↑i : Int).toNat) ((0 : (FK.i .i64).T), (ByteArray.mk #[]), (ByteArray.mk #[]), (0 : (FK.i .i64).T), (ByteArray.mk #[]), ())).snd.snd.fst)))).size + (headF (l.getD (0 + (↑i : Int).toNat) ((0 : (FK.i .i64).T), (ByteArray.mk #[]), (ByteArray.mk #[]), (0 : (FK.i .i64).T), (ByteArray.mk #[]), ())).snd.fst (l.getD (0 + (↑i : Int).toNat) ((0 : (FK.i .i64).T), (ByteArray.mk #[]), (ByteArray.mk #[]), (0 : (FK.i .i64).T), (ByteArray.mk #[]), ())).snd.snd.fst (Int.toNat (l.getD (0 + (↑i : Int).toNat) ((0 : (FK.i .i64).T), (ByteArray.mk #[]), (ByteArray.mk #[]), (0 : (FK.i .i64).T), (ByteArray.mk #[]), ())).snd.snd.snd.fst) (↑(ByteArray.size (l.getD (0 + (↑i : Int).toNat) ((0 : (FK.i .i64).T), (ByteArray.mk #[]), (ByteArray.mk #[]), (0 : (FK.i .i64).T), (ByteArray.mk #[]), ())).snd.snd.snd.snd.fst) : Int).toNat ((ByteArray.mk #[32, 48, 53, 49, 50]).extract (Int.toNat (l.getD (0 + (↑i : Int).toNat) ((0 : (FK.i .i64).T), (ByteArray.mk #[]), (ByteArray.mk #[]), (0 : (FK.i .i64).T), (ByteArray.mk #[]), ())).fst) (IntKind.i64.wrap ((l.getD (0 + (↑i : Int).toNat) ((0 : (FK.i .i64).T), (ByteArray.mk #[]), (ByteArray.mk #[]), (0 : (FK.i .i64).T), (ByteArray.mk #[]), ())).fst + (1 : Int))).toNat)).size) < 9223372036854775808)) && true) && true) (((ByteArray.size (l.getD (0 + (↑i : Int).toNat) ((0 : (FK.i .i64).T), (ByteArray.mk #[]), (ByteArray.mk #[]), (0 : (FK.i .i64).T), (ByteArray.mk #[]), ())).snd.snd.snd.snd.fst) < 1099511627776) ∧ (need (((decide (((((s ++ (headF (ByteArray.mk #[112, 97, 120]) (ByteArray.mk #[]) 0 (↑((recF (ByteArray.mk #[112, 97, 116, 104]) (l.getD (0 + (↑i : Int).toNat) ((0 : (FK.i .i64).T), (ByteArray.mk #[]), (ByteArray.mk #[]), (0 : (FK.i .i64).T), (ByteArray.mk #[]), ())).snd.fst) ++ (recF (ByteArray.mk #[108, 105, 110, 107, 112, 97, 116, 104]) (l.getD (0 + (↑i : Int).toNat) ((0 : (FK.i .i64).T), (ByteArray.mk #[]), (ByteArray.mk #[]), (0 : (FK.i .i64).T), (ByteArray.mk #[]), ())).snd.snd.fst)).size : Int).toNat (ByteArray.mk #[120]))) ++ (fullF ((recF (ByteArray.mk #[112, 97, 116, 104]) (l.getD (0 + (↑i : Int).toNat) ((0 : (FK.i .i64).T), (ByteArray.mk #[]), (ByteArray.mk #[]), (0 : (FK.i .i64).T), (ByteArray.mk #[]), ())).snd.fst) ++ (recF (ByteArray.mk #[108, 105, 110, 107, 112, 97, 116, 104]) (l.getD (0 + (↑i : Int).toNat) ((0 : (FK.i .i64).T), (ByteArray.mk #[]), (ByteArray.mk #[]), (0 : (FK.i .i64).T), (ByteArray.mk #[]), ())).snd.snd.fst)))) ++ (headF (l.getD (0 + (↑i : Int).toNat) ((0 : (FK.i .i64).T), (ByteArray.mk #[]), (ByteArray.mk #[]), (0 : (FK.i .i64).T), (ByteArray.mk #[]), ())).snd.fst (l.getD (0 + (↑i : Int).toNat) ((0 : (FK.i .i64).T), (ByteArray.mk #[]), (ByteArray.mk #[]), (0 : (FK.i .i64).T), (ByteArray.mk #[]), ())).snd.snd.fst (Int.toNat (l.getD (0 + (↑i : Int).toNat) ((0 : (FK.i .i64).T), (ByteArray.mk #[]), (ByteArray.mk #[]), (0 : (FK.i .i64).T), (ByteArray.mk #[]), ())).snd.snd.snd.fst) (↑(ByteArray.size (l.getD (0 + (↑i : Int).toNat) ((0 : (FK.i .i64).T), (ByteArray.mk #[]), (ByteArray.mk #[]), (0 : (FK.i .i64).T), (ByteArray.mk #[]), ())).snd.snd.snd.snd.fst) : Int).toNat ((ByteArray.mk #[32, 48, 53, 49, 50]).extract (Int.toNat (l.getD (0 + (↑i : Int).toNat) ((0 : (FK.i .i64).T), (ByteArray.mk #[]), (ByteArray.mk #[]), (0 : (FK.i .i64).T), (ByteArray.mk #[]), ())).fst) (IntKind.i64.wrap ((l.getD (0 + (↑i : Int).toNat) ((0 : (FK.i .i64).T), (ByteArray.mk #[]), (ByteArray.mk #[]), (0 : (FK.i .i64).T), (ByteArray.mk #[]), ())).fst + (1 : Int))).toNat))).size + (fullF (l.getD (0 + (↑i : Int).toNat) ((0 : (FK.i .i64).T), (ByteArray.mk #[]), (ByteArray.mk #[]), (0 : (FK.i .i64).T), (ByteArray.mk #[]), ())).snd.snd.snd.snd.fst).size) < 9223372036854775808)) && true) && true) (rnds Tryz.prog (call11 mayF recF headF fullF) (hints 11) noTab kk (lp Tryz.f11 5) [(0, (.slice (some (Addr.mk 0 0 none)) l.length c)), (4, (.string ((((s ++ (headF (ByteArray.mk #[112, 97, 120]) (ByteArray.mk #[]) 0 (↑((recF (ByteArray.mk #[112, 97, 116, 104]) (l.getD (0 + (↑i : Int).toNat) ((0 : (FK.i .i64).T), (ByteArray.mk #[]), (ByteArray.mk #[]), (0 : (FK.i .i64).T), (ByteArray.mk #[]), ())).snd.fst) ++ (recF (ByteArray.mk #[108, 105, 110, 107, 112, 97, 116, 104]) (l.getD (0 + (↑i : Int).toNat) ((0 : (FK.i .i64).T), (ByteArray.mk #[]), (ByteArray.mk #[]), (0 : (FK.i .i64).T), (ByteArray.mk #[]), ())).snd.snd.fst)).size : Int).toNat (ByteArray.mk #[120]))) ++ (fullF ((recF (ByteArray.mk #[112, 97, 116, 104]) (l.getD (0 + (↑i : Int).toNat) ((0 : (FK.i .i64).T), (ByteArray.mk #[]), (ByteArray.mk #[]), (0 : (FK.i .i64).T), (ByteArray.mk #[]), ())).snd.fst) ++ (recF (ByteArray.mk #[108, 105, 110, 107, 112, 97, 116, 104]) (l.getD (0 + (↑i : Int).toNat) ((0 : (FK.i .i64).T), (ByteArray.mk #[]), (ByteArray.mk #[]), (0 : (FK.i .i64).T), (ByteArray.mk #[]), ())).snd.snd.fst)))) ++ (headF (l.getD (0 + (↑i : Int).toNat) ((0 : (FK.i .i64).T), (ByteArray.mk #[]), (ByteArray.mk #[]), (0 : (FK.i .i64).T), (ByteArray.mk #[]), ())).snd.fst (l.getD (0 + (↑i : Int).toNat) ((0 : (FK.i .i64).T), (ByteArray.mk #[]), (ByteArray.mk #[]), (0 : (FK.i .i64).T), (ByteArray.mk #[]), ())).snd.snd.fst (Int.toNat (l.getD (0 + (↑i : Int).toNat) ((0 : (FK.i .i64).T), (ByteArray.mk #[]), (ByteArray.mk #[]), (0 : (FK.i .i64).T), (ByteArray.mk #[]), ())).snd.snd.snd.fst) (↑(ByteArray.size (l.getD (0 + (↑i : Int).toNat) ((0 : (FK.i .i64).T), (ByteArray.mk #[]), (ByteArray.mk #[]), (0 : (FK.i .i64).T), (ByteArray.mk #[]), ())).snd.snd.snd.snd.fst) : Int).toNat ((ByteArray.mk #[32, 48, 53, 49, 50]).extract (Int.toNat (l.getD (0 + (↑i : Int).toNat) ((0 : (FK.i .i64).T), (ByteArray.mk #[]), (ByteArray.mk #[]), (0 : (FK.i .i64).T), (ByteArray.mk #[]), ())).fst) (IntKind.i64.wrap ((l.getD (0 + (↑i : Int).toNat) ((0 : (FK.i .i64).T), (ByteArray.mk #[]), (ByteArray.mk #[]), (0 : (FK.i .i64).T), (ByteArray.mk #[]), ())).fst + (1 : Int))).toNat))) ++ (fullF (l.getD (0 + (↑i : Int).toNat) ((0 : (FK.i .i64).T), (ByteArray.mk #[]), (ByteArray.mk #[]), (0 : (FK.i .i64).T), (ByteArray.mk #[]), ())).snd.snd.snd.snd.fst)))), (5, (.int .i64 (IntKind.i64.wrap ((↑i : Int) + (1 : Int)))))] [(VB.row (flatC [(FK.i .i64), FK.s, FK.s, (FK.i .i64), FK.s]) 5 l .ro)] K)))))))))) p1))) (bcase (!((recF (ByteArray.mk #[112, 97, 116, 104]) (l.getD (0 + (↑i : Int).toNat) ((0 : (FK.i .i64).T), (ByteArray.mk #[]), (ByteArray.mk #[]), (0 : (FK.i .i64).T), (ByteArray.mk #[]), ())).snd.fst).toList == (ByteArray.mk #[]).toList)) ((((3 < 1099511627776) ∧ (0 < 1099511627776)) ∧ (((0 : Int) ≤ (0 : Int)) ∧ (((0 : Int) < ((2 : Int) ^ 62)) ∧ (((0 : Int) ≤ (↑(recF (ByteArray.mk #[112, 97, 116, 104]) (l.getD (0 + (↑i : Int).toNat) ((0 : (FK.i .i64).T), (ByteArray.mk #[]), (ByteArray.mk #[]), (0 : (FK.i .i64).T), (ByteArray.mk #[]), ())).snd.fst).size : Int)) ∧ (((↑(recF (ByteArray.mk #[112, 97, 116, 104]) (l.getD (0 + (↑i : Int).toNat) ((0 : (FK.i .i64).T), (ByteArray.mk #[]), (ByteArray.mk #[]), (0 : (FK.i .i64).T), (ByteArray.mk #[]), ())).snd.fst).size : Int) < ((2 : Int) ^ 62)) ∧ (1 = 1)))))) ∧ (need (decide ((s.size + (headF (ByteArray.mk #[112, 97, 120]) (ByteArray.mk #[]) 0 (↑(recF (ByteArray.mk #[112, 97, 116, 104]) (l.getD (0 + (↑i : Int).toNat) ((0 : (FK.i .i64).T), (ByteArray.mk #[]), (ByteArray.mk #[]), (0 : (FK.i .i64).T), (ByteArray.mk #[]), ())).snd.fst).size : Int).toNat (ByteArray.mk #[120])).size) < 9223372036854775808)) (((recF (ByteArray.mk #[112, 97, 116, 104]) (l.getD (0 + (↑i : Int).toNat) ((0 : (FK.i .i64).T), (ByteArray.mk #[]), (ByteArray.mk #[]), (0 : (FK.i .i64).T), (ByteArray.mk #[]), ())).snd.fst).size < 1099511627776) ∧ (need (decide (((s ++ (headF (ByteArray.mk #[112, 97, 120]) (ByteArray.mk #[]) 0 (↑(recF (ByteArray.mk #[112, 97, 116, 104]) (l.getD (0 + (↑i : Int).toNat) ((0 : (FK.i .i64).T), (ByteArray.mk #[]), (ByteArray.mk #[]), (0 : (FK.i .i64).T), (ByteArray.mk #[]), ())).snd.fst).size : Int).toNat (ByteArray.mk #[120]))).size + (fullF (recF (ByteArray.mk #[112, 97, 116, 104]) (l.getD (0 + (↑i : Int).toNat) ((0 : (FK.i .i64).T), (ByteArray.mk #[]), (ByteArray.mk #[]), (0 : (FK.i .i64).T), (ByteArray.mk #[]), ())).snd.fst)).size) < 9223372036854775808)) (need ((((decide ((0 : Int) ≤ (l.getD (0 + (↑i : Int).toNat) ((0 : (FK.i .i64).T), (ByteArray.mk #[]), (ByteArray.mk #[]), (0 : (FK.i .i64).T), (ByteArray.mk #[]), ())).fst)) && ((decide ((l.getD (0 + (↑i : Int).toNat) ((0 : (FK.i .i64).T), (ByteArray.mk #[]), (ByteArray.mk #[]), (0 : (FK.i .i64).T), (ByteArray.mk #[]), ())).fst ≤ (IntKind.i64.wrap ((l.getD (0 + (↑i : Int).toNat) ((0 : (FK.i .i64).T), (ByteArray.mk #[]), (ByteArray.mk #[]), (0 : (FK.i .i64).T), (ByteArray.mk #[]), ())).fst + (1 : Int))))) && (decide ((IntKind.i64.wrap ((l.getD (0 + (↑i : Int).toNat) ((0 : (FK.i .i64).T), (ByteArray.mk #[]), (ByteArray.mk #[]), (0 : (FK.i .i64).T), (ByteArray.mk #[]), ())).fst + (1 : Int))) ≤ (↑5 : Int))))) && true) && true) (p0 ∧ (need (((decide ((((s ++ (headF (ByteArray.mk #[112, 97, 120]) (ByteArray.mk #[]) 0 (↑(recF (ByteArray.mk #[112, 97, 116, 104]) (l.getD (0 + (↑i : Int).toNat) ((0 : (FK.i .i64).T), (ByteArray.mk #[]), (ByteArray.mk #[]), (0 : (FK.i .i64).T), (ByteArray.mk #[]), ())).snd.fst).size : Int).toNat (ByteArray.mk #[120]))) ++ (fullF (recF (ByteArray.mk #[112, 97, 116, 104]) (l.getD (0 + (↑i : Int).toNat) ((0 : (FK.i .i64).T), (ByteArray.mk #[]), (ByteArray.mk #[]), (0 : (FK.i .i64).T), (ByteArray.mk #[]), ())).snd.fst))).size + (headF (l.getD (0 + (↑i : Int).toNat) ((0 : (FK.i .i64).T), (ByteArray.mk #[]), (ByteArray.mk #[]), (0 : (FK.i .i64).T), (ByteArray.mk #[]), ())).snd.fst (l.getD (0 + (↑i : Int).toNat) ((0 : (FK.i .i64).T), (ByteArray.mk #[]), (ByteArray.mk #[]), (0 : (FK.i .i64).T), (ByteArray.mk #[]), ())).snd.snd.fst (Int.toNat (l.getD (0 + (↑i : Int).toNat) ((0 : (FK.i .i64).T), (ByteArray.mk #[]), (ByteArray.mk #[]), (0 : (FK.i .i64).T), (ByteArray.mk #[]), ())).snd.snd.snd.fst) (↑(ByteArray.size (l.getD (0 + (↑i : Int).toNat) ((0 : (FK.i .i64).T), (ByteArray.mk #[]), (ByteArray.mk #[]), (0 : (FK.i .i64).T), (ByteArray.mk #[]), ())).snd.snd.snd.snd.fst) : Int).toNat ((ByteArray.mk #[32, 48, 53, 49, 50]).extract (Int.toNat (l.getD (0 + (↑i : Int).toNat) ((0 : (FK.i .i64).T), (ByteArray.mk #[]), (ByteArray.mk #[]), (0 : (FK.i .i64).T), (ByteArray.mk #[]), ())).fst) (IntKind.i64.wrap ((l.getD (0 + (↑i : Int).toNat) ((0 : (FK.i .i64).T), (ByteArray.mk #[]), (ByteArray.mk #[]), (0 : (FK.i .i64).T), (ByteArray.mk #[]), ())).fst + (1 : Int))).toNat)).size) < 9223372036854775808)) && true) && true) (((ByteArray.size (l.getD (0 + (↑i : Int).toNat) ((0 : (FK.i .i64).T), (ByteArray.mk #[]), (ByteArray.mk #[]), (0 : (FK.i .i64).T), (ByteArray.mk #[]), ())).snd.snd.snd.snd.fst) < 1099511627776) ∧ (need (((decide (((((s ++ (headF (ByteArray.mk #[112, 97, 120]) (ByteArray.mk #[]) 0 (↑(recF (ByteArray.mk #[112, 97, 116, 104]) (l.getD (0 + (↑i : Int).toNat) ((0 : (FK.i .i64).T), (ByteArray.mk #[]), (ByteArray.mk #[]), (0 : (FK.i .i64).T), (ByteArray.mk #[]), ())).snd.fst).size : Int).toNat (ByteArray.mk #[120]))) ++ (fullF (recF (ByteArray.mk #[112, 97, 116, 104]) (l.getD (0 + (↑i : Int).toNat) ((0 : (FK.i .i64).T), (ByteArray.mk #[]), (ByteArray.mk #[]), (0 : (FK.i .i64).T), (ByteArray.mk #[]), ())).snd.fst))) ++ (headF (l.getD (0 + (↑i : Int).toNat) ((0 : (FK.i .i64).T), (ByteArray.mk #[]), (ByteArray.mk #[]), (0 : (FK.i .i64).T), (ByteArray.mk #[]), ())).snd.fst (l.getD (0 + (↑i : Int).toNat) ((0 : (FK.i .i64).T), (ByteArray.mk #[]), (ByteArray.mk #[]), (0 : (FK.i .i64).T), (ByteArray.mk #[]), ())).snd.snd.fst (Int.toNat (l.getD (0 + (↑i : Int).toNat) ((0 : (FK.i .i64).T), (ByteArray.mk #[]), (ByteArray.mk #[]), (0 : (FK.i .i64).T), (ByteArray.mk #[]), ())).snd.snd.snd.fst) (↑(ByteArray.size (l.getD (0 + (↑i : Int).toNat) ((0 : (FK.i .i64).T), (ByteArray.mk #[]), (ByteArray.mk #[]), (0 : (FK.i .i64).T), (ByteArray.mk #[]), ())).snd.snd.snd.snd.fst) : Int).toNat ((ByteArray.mk #[32, 48, 53, 49, 50]).extract (Int.toNat (l.getD (0 + (↑i : Int).toNat) ((0 : (FK.i .i64).T), (ByteArray.mk #[]), (ByteArray.mk #[]), (0 : (FK.i .i64).T), (ByteArray.mk #[]), ())).fst) (IntKind.i64.wrap ((l.getD (0 + (↑i : Int).toNat) ((0 : (FK.i .i64).T), (ByteArray.mk #[]), (ByteArray.mk #[]), (0 : (FK.i .i64).T), (ByteArray.mk #[]), ())).fst + (1 : Int))).toNat))).size + (fullF (l.getD (0 + (↑i : Int).toNat) ((0 : (FK.i .i64).T), (ByteArray.mk #[]), (ByteArray.mk #[]), (0 : (FK.i .i64).T), (ByteArray.mk #[]), ())).snd.snd.snd.snd.fst).size) < 9223372036854775808)) && true) && true) (rnds Tryz.prog (call11 mayF recF headF fullF) (hints 11) noTab kk (lp Tryz.f11 5) [(0, (.slice (some (Addr.mk 0 0 none)) l.length c)), (4, (.string ((((s ++ (headF (ByteArray.mk #[112, 97, 120]) (ByteArray.mk #[]) 0 (↑(recF (ByteArray.mk #[112, 97, 116, 104]) (l.getD (0 + (↑i : Int).toNat) ((0 : (FK.i .i64).T), (ByteArray.mk #[]), (ByteArray.mk #[]), (0 : (FK.i .i64).T), (ByteArray.mk #[]), ())).snd.fst).size : Int).toNat (ByteArray.mk #[120]))) ++ (fullF (recF (ByteArray.mk #[112, 97, 116, 104]) (l.getD (0 + (↑i : Int).toNat) ((0 : (FK.i .i64).T), (ByteArray.mk #[]), (ByteArray.mk #[]), (0 : (FK.i .i64).T), (ByteArray.mk #[]), ())).snd.fst))) ++ (headF (l.getD (0 + (↑i : Int).toNat) ((0 : (FK.i .i64).T), (ByteArray.mk #[]), (ByteArray.mk #[]), (0 : (FK.i .i64).T), (ByteArray.mk #[]), ())).snd.fst (l.getD (0 + (↑i : Int).toNat) ((0 : (FK.i .i64).T), (ByteArray.mk #[]), (ByteArray.mk #[]), (0 : (FK.i .i64).T), (ByteArray.mk #[]), ())).snd.snd.fst (Int.toNat (l.getD (0 + (↑i : Int).toNat) ((0 : (FK.i .i64).T), (ByteArray.mk #[]), (ByteArray.mk #[]), (0 : (FK.i .i64).T), (ByteArray.mk #[]), ())).snd.snd.snd.fst) (↑(ByteArray.size (l.getD (0 + (↑i : Int).toNat) ((0 : (FK.i .i64).T), (ByteArray.mk #[]), (ByteArray.mk #[]), (0 : (FK.i .i64).T), (ByteArray.mk #[]), ())).snd.snd.snd.snd.fst) : Int).toNat ((ByteArray.mk #[32, 48, 53, 49, 50]).extract (Int.toNat (l.getD (0 + (↑i : Int).toNat) ((0 : (FK.i .i64).T), (ByteArray.mk #[]), (ByteArray.mk #[]), (0 : (FK.i .i64).T), (ByteArray.mk #[]), ())).fst) (IntKind.i64.wrap ((l.getD (0 + (↑i : Int).toNat) ((0 : (FK.i .i64).T), (ByteArray.mk #[]), (ByteArray.mk #[]), (0 : (FK.i .i64).T), (ByteArray.mk #[]), ())).fst + (1 : Int))).toNat))) ++ (fullF (l.getD (0 + (↑i : Int).toNat) ((0 : (FK.i .i64).T), (ByteArray.mk #[]), (ByteArray.mk #[]), (0 : (FK.i .i64).T), (ByteArray.mk #[]), ())).snd.snd.snd.snd.fst)))), (5, (.int .i64 (IntKind.i64.wrap ((↑i : Int) + (1 : Int)))))] [(VB.row (flatC [(FK.i .i64), FK.s, FK.s, (FK.i .i64), FK.s]) 5 l .ro)] K)))))))))) p1))) (bcase (decide ((↑(ByteArray.size (l.getD (0 + (↑i : Int).toNat) ((0 : (FK.i .i64).T), (ByteArray.mk #[]), (ByteArray.mk #[]), (0 : (FK.i .i64).T), (ByteArray.mk #[]), ())).snd.snd.fst) : Int) > (100 : Int))) (((8 < 1073741824) ∧ ((ByteArray.size (l.getD (0 + (↑i : Int).toNat) ((0 : (FK.i .i64).T), (ByteArray.mk #[]), (ByteArray.mk #[]), (0 : (FK.i .i64).T), (ByteArray.mk #[]), ())).snd.snd.fst) < 1073741824)) ∧ (need (decide ((0 + (recF (ByteArray.mk #[108, 105, 110, 107, 112, 97, 116, 104]) (l.getD (0 + (↑i : Int).toNat) ((0 : (FK.i .i64).T), (ByteArray.mk #[]), (ByteArray.mk #[]), (0 : (FK.i .i64).T), (ByteArray.mk #[]), ())).snd.snd.fst).size) < 9223372036854775808)) (bcase (!(((ByteArray.mk #[]) ++ (recF (ByteArray.mk #[108, 105, 110, 107, 112, 97, 116, 104]) (l.getD (0 + (↑i : Int).toNat) ((0 : (FK.i .i64).T), (ByteArray.mk #[]), (ByteArray.mk #[]), (0 : (FK.i .i64).T), (ByteArray.mk #[]), ())).snd.snd.fst)).toList == (ByteArray.mk #[]).toList)) ((((3 < 1099511627776) ∧ (0 < 1099511627776)) ∧ (((0 : Int) ≤ (0 : Int)) ∧ (((0 : Int) < ((2 : Int) ^ 62)) ∧ (((0 : Int) ≤ (↑((ByteArray.mk #[]) ++ (recF (ByteArray.mk #[108, 105, 110, 107, 112, 97, 116, 104]) (l.getD (0 + (↑i : Int).toNat) ((0 : (FK.i .i64).T), (ByteArray.mk #[]), (ByteArray.mk #[]), (0 : (FK.i .i64).T), (ByteArray.mk #[]), ())).snd.snd.fst)).size : Int)) ∧ (((↑((ByteArray.mk #[]) ++ (recF (ByteArray.mk #[108, 105, 110, 107, 112, 97, 116, 104]) (l.getD (0 + (↑i : Int).toNat) ((0 : (FK.i .i64).T), (ByteArray.mk #[]), (ByteArray.mk #[]), (0 : (FK.i .i64).T), (ByteArray.mk #[]), ())).snd.snd.fst)).size : Int) < ((2 : Int) ^ 62)) ∧ (1 = 1)))))) ∧ (need (decide ((s.size + (headF (ByteArray.mk #[112, 97, 120]) (ByteArray.mk #[]) 0 (↑((ByteArray.mk #[]) ++ (recF (ByteArray.mk #[108, 105, 110, 107, 112, 97, 116, 104]) (l.getD (0 + (↑i : Int).toNat) ((0 : (FK.i .i64).T), (ByteArray.mk #[]), (ByteArray.mk #[]), (0 : (FK.i .i64).T), (ByteArray.mk #[]), ())).snd.snd.fst)).size : Int).toNat (ByteArray.mk #[120])).size) < 9223372036854775808)) ((((ByteArray.mk #[]) ++ (recF (ByteArray.mk #[108, 105, 110, 107, 112, 97, 116, 104]) (l.getD (0 + (↑i : Int).toNat) ((0 : (FK.i .i64).T), (ByteArray.mk #[]), (ByteArray.mk #[]), (0 : (FK.i .i64).T), (ByteArray.mk #[]), ())).snd.snd.fst)).size < 1099511627776) ∧ (need (decide (((s ++ (headF (ByteArray.mk #[112, 97, 120]) (ByteArray.mk #[]) 0 (↑((ByteArray.mk #[]) ++ (recF (ByteArray.mk #[108, 105, 110, 107, 112, 97, 116, 104]) (l.getD (0 + (↑i : Int).toNat) ((0 : (FK.i .i64).T), (ByteArray.mk #[]), (ByteArray.mk #[]), (0 : (FK.i .i64).T), (ByteArray.mk #[]), ())).snd.snd.fst)).size : Int).toNat (ByteArray.mk #[120]))).size + (fullF ((ByteArray.mk #[]) ++ (recF (ByteArray.mk #[108, 105, 110, 107, 112, 97, 116, 104]) (l.getD (0 + (↑i : Int).toNat) ((0 : (FK.i .i64).T), (ByteArray.mk #[]), (ByteArray.mk #[]), (0 : (FK.i .i64).T), (ByteArray.mk #[]), ())).snd.snd.fst))).size) < 9223372036854775808)) (need ((((decide ((0 : Int) ≤ (l.getD (0 + (↑i : Int).toNat) ((0 : (FK.i .i64).T), (ByteArray.mk #[]), (ByteArray.mk #[]), (0 : (FK.i .i64).T), (ByteArray.mk #[]), ())).fst)) && ((decide ((l.getD (0 + (↑i : Int).toNat) ((0 : (FK.i .i64).T), (ByteArray.mk #[]), (ByteArray.mk #[]), (0 : (FK.i .i64).T), (ByteArray.mk #[]), ())).fst ≤ (IntKind.i64.wrap ((l.getD (0 + (↑i : Int).toNat) ((0 : (FK.i .i64).T), (ByteArray.mk #[]), (ByteArray.mk #[]), (0 : (FK.i .i64).T), (ByteArray.mk #[]), ())).fst + (1 : Int))))) && (decide ((IntKind.i64.wrap ((l.getD (0 + (↑i : Int).toNat) ((0 : (FK.i .i64).T), (ByteArray.mk #[]), (ByteArray.mk #[]), (0 : (FK.i .i64).T), (ByteArray.mk #[]), ())).fst + (1 : Int))) ≤ (↑5 : Int))))) && true) && true) (p0 ∧ (need (((decide ((((s ++ (headF (ByteArray.mk #[112, 97, 120]) (ByteArray.mk #[]) 0 (↑((ByteArray.mk #[]) ++ (recF (ByteArray.mk #[108, 105, 110, 107, 112, 97, 116, 104]) (l.getD (0 + (↑i : Int).toNat) ((0 : (FK.i .i64).T), (ByteArray.mk #[]), (ByteArray.mk #[]), (0 : (FK.i .i64).T), (ByteArray.mk #[]), ())).snd.snd.fst)).size : Int).toNat (ByteArray.mk #[120]))) ++ (fullF ((ByteArray.mk #[]) ++ (recF (ByteArray.mk #[108, 105, 110, 107, 112, 97, 116, 104]) (l.getD (0 + (↑i : Int).toNat) ((0 : (FK.i .i64).T), (ByteArray.mk #[]), (ByteArray.mk #[]), (0 : (FK.i .i64).T), (ByteArray.mk #[]), ())).snd.snd.fst)))).size + (headF (l.getD (0 + (↑i : Int).toNat) ((0 : (FK.i .i64).T), (ByteArray.mk #[]), (ByteArray.mk #[]), (0 : (FK.i .i64).T), (ByteArray.mk #[]), ())).snd.fst (l.getD (0 + (↑i : Int).toNat) ((0 : (FK.i .i64).T), (ByteArray.mk #[]), (ByteArray.mk #[]), (0 : (FK.i .i64).T), (ByteArray.mk #[]), ())).snd.snd.fst (Int.toNat (l.getD (0 + (↑i : Int).toNat) ((0 : (FK.i .i64).T), (ByteArray.mk #[]), (ByteArray.mk #[]), (0 : (FK.i .i64).T), (ByteArray.mk #[]), ())).snd.snd.snd.fst) (↑(ByteArray.size (l.getD (0 + (↑i : Int).toNat) ((0 : (FK.i .i64).T), (ByteArray.mk #[]), (ByteArray.mk #[]), (0 : (FK.i .i64).T), (ByteArray.mk #[]), ())).snd.snd.snd.snd.fst) : Int).toNat ((ByteArray.mk #[32, 48, 53, 49, 50]).extract (Int.toNat (l.getD (0 + (↑i : Int).toNat) ((0 : (FK.i .i64).T), (ByteArray.mk #[]), (ByteArray.mk #[]), (0 : (FK.i .i64).T), (ByteArray.mk #[]), ())).fst) (IntKind.i64.wrap ((l.getD (0 + (↑i : Int).toNat) ((0 : (FK.i .i64).T), (ByteArray.mk #[]), (ByteArray.mk #[]), (0 : (FK.i .i64).T), (ByteArray.mk #[]), ())).fst + (1 : Int))).toNat)).size) < 9223372036854775808)) && true) && true) (((ByteArray.size (l.getD (0 + (↑i : Int).toNat) ((0 : (FK.i .i64).T), (ByteArray.mk #[]), (ByteArray.mk #[]), (0 : (FK.i .i64).T), (ByteArray.mk #[]), ())).snd.snd.snd.snd.fst) < 1099511627776) ∧ (need (((decide (((((s ++ (headF (ByteArray.mk #[112, 97, 120]) (ByteArray.mk #[]) 0 (↑((ByteArray.mk #[]) ++ (recF (ByteArray.mk #[108, 105, 110, 107, 112, 97, 116, 104]) (l.getD (0 + (↑i : Int).toNat) ((0 : (FK.i .i64).T), (ByteArray.mk #[]), (ByteArray.mk #[]), (0 : (FK.i .i64).T), (ByteArray.mk #[]), ())).snd.snd.fst)).size : Int).toNat (ByteArray.mk #[120]))) ++ (fullF ((ByteArray.mk #[]) ++ (recF (ByteArray.mk #[108, 105, 110, 107, 112, 97, 116, 104]) (l.getD (0 + (↑i : Int).toNat) ((0 : (FK.i .i64).T), (ByteArray.mk #[]), (ByteArray.mk #[]), (0 : (FK.i .i64).T), (ByteArray.mk #[]), ())).snd.snd.fst)))) ++ (headF (l.getD (0 + (↑i : Int).toNat) ((0 : (FK.i .i64).T), (ByteArray.mk #[]), (ByteArray.mk #[]), (0 : (FK.i .i64).T), (ByteArray.mk #[]), ())).snd.fst (l.getD (0 + (↑i : Int).toNat) ((0 : (FK.i .i64).T), (ByteArray.mk #[]), (ByteArray.mk #[]), (0 : (FK.i .i64).T), (ByteArray.mk #[]), ())).snd.snd.fst (Int.toNat (l.getD (0 + (↑i : Int).toNat) ((0 : (FK.i .i64).T), (ByteArray.mk #[]), (ByteArray.mk #[]), (0 : (FK.i .i64).T), (ByteArray.mk #[]), ())).snd.snd.snd.fst) (↑(ByteArray.size (l.getD (0 + (↑i : Int).toNat) ((0 : (FK.i .i64).T), (ByteArray.mk #[]), (ByteArray.mk #[]), (0 : (FK.i .i64).T), (ByteArray.mk #[]), ())).snd.snd.snd.snd.fst) : Int).toNat ((ByteArray.mk #[32, 48, 53, 49, 50]).extract (Int.toNat (l.getD (0 + (↑i : Int).toNat) ((0 : (FK.i .i64).T), (ByteArray.mk #[]), (ByteArray.mk #[]), (0 : (FK.i .i64).T), (ByteArray.mk #[]), ())).fst) (IntKind.i64.wrap ((l.getD (0 + (↑i : Int).toNat) ((0 : (FK.i .i64).T), (ByteArray.mk #[]), (ByteArray.mk #[]), (0 : (FK.i .i64).T), (ByteArray.mk #[]), ())).fst + (1 : Int))).toNat))).size + (fullF (l.getD (0 + (↑i : Int).toNat) ((0 : (FK.i .i64).T), (ByteArray.mk #[]), (ByteArray.mk #[]), (0 : (FK.i .i64).T), (ByteArray.mk #[]), ())).snd.snd.snd.snd.fst).size) < 9223372036854775808)) && true) && true) (rnds Tryz.prog (call11 mayF recF headF fullF) (hints 11) noTab kk (lp Tryz.f11 5) [(0, (.slice (some (Addr.mk 0 0 none)) l.length c)), (4, (.string ((((s ++ (headF (ByteArray.mk #[112, 97, 120]) (ByteArray.mk #[]) 0 (↑((ByteArray.mk #[]) ++ (recF (ByteArray.mk #[108, 105, 110, 107, 112, 97, 116, 104]) (l.getD (0 + (↑i : Int).toNat) ((0 : (FK.i .i64).T), (ByteArray.mk #[]), (ByteArray.mk #[]), (0 : (FK.i .i64).T), (ByteArray.mk #[]), ())).snd.snd.fst)).size : Int).toNat (ByteArray.mk #[120]))) ++ (fullF ((ByteArray.mk #[]) ++ (recF (ByteArray.mk #[108, 105, 110, 107, 112, 97, 116, 104]) (l.getD (0 + (↑i : Int).toNat) ((0 : (FK.i .i64).T), (ByteArray.mk #[]), (ByteArray.mk #[]), (0 : (FK.i .i64).T), (ByteArray.mk #[]), ())).snd.snd.fst)))) ++ (headF (l.getD (0 + (↑i : Int).toNat) ((0 : (FK.i .i64).T), (ByteArray.mk #[]), (ByteArray.mk #[]), (0 : (FK.i .i64).T), (ByteArray.mk #[]), ())).snd.fst (l.getD (0 + (↑i : Int).toNat) ((0 : (FK.i .i64).T), (ByteArray.mk #[]), (ByteArray.mk #[]), (0 : (FK.i .i64).T), (ByteArray.mk #[]), ())).snd.snd.fst (Int.toNat (l.getD (0 + (↑i : Int).toNat) ((0 : (FK.i .i64).T), (ByteArray.mk #[]), (ByteArray.mk #[]), (0 : (FK.i .i64).T), (ByteArray.mk #[]), ())).snd.snd.snd.fst) (↑(ByteArray.size (l.getD (0 + (↑i : Int).toNat) ((0 : (FK.i .i64).T), (ByteArray.mk #[]), (ByteArray.mk #[]), (0 : (FK.i .i64).T), (ByteArray.mk #[]), ())).snd.snd.snd.snd.fst) : Int).toNat ((ByteArray.mk #[32, 48, 53, 49, 50]).extract (Int.toNat (l.getD (0 + (↑i : Int).toNat) ((0 : (FK.i .i64).T), (ByteArray.mk #[]), (ByteArray.mk #[]), (0 : (FK.i .i64).T), (ByteArray.mk #[]), ())).fst) (IntKind.i64.wrap ((l.getD (0 + (↑i : Int).toNat) ((0 : (FK.i .i64).T), (ByteArray.mk #[]), (ByteArray.mk #[]), (0 : (FK.i .i64).T), (ByteArray.mk #[]), ())).fst + (1 : Int))).toNat))) ++ (fullF (l.getD (0 + (↑i : Int).toNat) ((0 : (FK.i .i64).T), (ByteArray.mk #[]), (ByteArray.mk #[]), (0 : (FK.i .i64).T), (ByteArray.mk #[]), ())).snd.snd.snd.snd.fst)))), (5, (.int .i64 (IntKind.i64.wrap ((↑i : Int) + (1 : Int)))))] [(VB.row (flatC [(FK.i .i64), FK.s, FK.s, (FK.i .i64), FK.s]) 5 l .ro)] K)))))))))) p1))) (bcase (!((ByteArray.mk #[]).toList == (ByteArray.mk #[]).toList)) ((((3 < 1099511627776) ∧ (0 < 1099511627776)) ∧ (((0 : Int) ≤ (0 : Int)) ∧ (((0 : Int) < ((2 : Int) ^ 62)) ∧ (((0 : Int) ≤ (↑0 : Int)) ∧ (((↑0 : Int) < ((2 : Int) ^ 62)) ∧ (1 = 1)))))) ∧ (need (decide ((s.size + (headF (ByteArray.mk #[112, 97, 120]) (ByteArray.mk #[]) 0 0 (ByteArray.mk #[120])).size) < 9223372036854775808)) ((0 < 1099511627776) ∧ (need (decide (((s ++ (headF (ByteArray.mk #[112, 97, 120]) (ByteArray.mk #[]) 0 0 (ByteArray.mk #[120]))).size + (fullF (ByteArray.mk #[])).size) < 9223372036854775808)) (need ((((decide ((0 : Int) ≤ (l.getD (0 + (↑i : Int).toNat) ((0 : (FK.i .i64).T), (ByteArray.mk #[]), (ByteArray.mk #[]), (0 : (FK.i .i64).T), (ByteArray.mk #[]), ())).fst)) && ((decide ((l.getD (0 + (↑i : Int).toNat) ((0 : (FK.i .i64).T), (ByteArray.mk #[]), (ByteArray.mk #[]), (0 : (FK.i .i64).T), (ByteArray.mk #[]), ())).fst ≤ (IntKind.i64.wrap ((l.getD (0 + (↑i : Int).toNat) ((0 : (FK.i .i64).T), (ByteArray.mk #[]), (ByteArray.mk #[]), (0 : (FK.i .i64).T), (ByteArray.mk #[]), ())).fst + (1 : Int))))) && (decide ((IntKind.i64.wrap ((l.getD (0 + (↑i : Int).toNat) ((0 : (FK.i .i64).T), (ByteArray.mk #[]), (ByteArray.mk #[]), (0 : (FK.i .i64).T), (ByteArray.mk #[]), ())).fst + (1 : Int))) ≤ (↑5 : Int))))) && true) && true) (p0 ∧ (need (((decide ((((s ++ (headF (ByteArray.mk #[112, 97, 120]) (ByteArray.mk #[]) 0 0 (ByteArray.mk #[120]))) ++ (fullF (ByteArray.mk #[]))).size + (headF (l.getD (0 + (↑i : Int).toNat) ((0 : (FK.i .i64).T), (ByteArray.mk #[]), (ByteArray.mk #[]), (0 : (FK.i .i64).T), (ByteArray.mk #[]), ())).snd.fst (l.getD (0 + (↑i : Int).toNat) ((0 : (FK.i .i64).T), (ByteArray.mk #[]), (ByteArray.mk #[]), (0 : (FK.i .i64).T), (ByteArray.mk #[]), ())).snd.snd.fst (Int.toNat (l.getD (0 + (↑i : Int).toNat) ((0 : (FK.i .i64).T), (ByteArray.mk #[]), (ByteArray.mk #[]), (0 : (FK.i .i64).T), (ByteArray.mk #[]), ())).snd.snd.snd.fst) (↑(ByteArray.size (l.getD (0 + (↑i : Int).toNat) ((0 : (FK.i .i64).T), (ByteArray.mk #[]), (ByteArray.mk #[]), (0 : (FK.i .i64).T), (ByteArray.mk #[]), ())).snd.snd.snd.snd.fst) : Int).toNat ((ByteArray.mk #[32, 48, 53, 49, 50]).extract (Int.toNat (l.getD (0 + (↑i : Int).toNat) ((0 : (FK.i .i64).T), (ByteArray.mk #[]), (ByteArray.mk #[]), (0 : (FK.i .i64).T), (ByteArray.mk #[]), ())).fst) (IntKind.i64.wrap ((l.getD (0 + (↑i : Int).toNat) ((0 : (FK.i .i64).T), (ByteArray.mk #[]), (ByteArray.mk #[]), (0 : (FK.i .i64).T), (ByteArray.mk #[]), ())).fst + (1 : Int))).toNat)).size) < 9223372036854775808)) && true) && true) (((ByteArray.size (l.getD (0 + (↑i : Int).toNat) ((0 : (FK.i .i64).T), (ByteArray.mk #[]), (ByteArray.mk #[]), (0 : (FK.i .i64).T), (ByteArray.mk #[]), ())).snd.snd.snd.snd.fst) < 1099511627776) ∧ (need (((decide (((((s ++ (headF (ByteArray.mk #[112, 97, 120]) (ByteArray.mk #[]) 0 0 (ByteArray.mk #[120]))) ++ (fullF (ByteArray.mk #[]))) ++ (headF (l.getD (0 + (↑i : Int).toNat) ((0 : (FK.i .i64).T), (ByteArray.mk #[]), (ByteArray.mk #[]), (0 : (FK.i .i64).T), (ByteArray.mk #[]), ())).snd.fst (l.getD (0 + (↑i : Int).toNat) ((0 : (FK.i .i64).T), (ByteArray.mk #[]), (ByteArray.mk #[]), (0 : (FK.i .i64).T), (ByteArray.mk #[]), ())).snd.snd.fst (Int.toNat (l.getD (0 + (↑i : Int).toNat) ((0 : (FK.i .i64).T), (ByteArray.mk #[]), (ByteArray.mk #[]), (0 : (FK.i .i64).T), (ByteArray.mk #[]), ())).snd.snd.snd.fst) (↑(ByteArray.size (l.getD (0 + (↑i : Int).toNat) ((0 : (FK.i .i64).T), (ByteArray.mk #[]), (ByteArray.mk #[]), (0 : (FK.i .i64).T), (ByteArray.mk #[]), ())).snd.snd.snd.snd.fst) : Int).toNat ((ByteArray.mk #[32, 48, 53, 49, 50]).extract (Int.toNat (l.getD (0 + (↑i : Int).toNat) ((0 : (FK.i .i64).T), (ByteArray.mk #[]), (ByteArray.mk #[]), (0 : (FK.i .i64).T), (ByteArray.mk #[]), ())).fst) (IntKind.i64.wrap ((l.getD (0 + (↑i : Int).toNat) ((0 : (FK.i .i64).T), (ByteArray.mk #[]), (ByteArray.mk #[]), (0 : (FK.i .i64).T), (ByteArray.mk #[]), ())).fst + (1 : Int))).toNat))).size + (fullF (l.getD (0 + (↑i : Int).toNat) ((0 : (FK.i .i64).T), (ByteArray.mk #[]), (ByteArray.mk #[]), (0 : (FK.i .i64).T), (ByteArray.mk #[]), ())).snd.snd.snd.snd.fst).size) < 9223372036854775808)) && true) && true) (rnds Tryz.prog (call11 mayF recF headF fullF) (hints 11) noTab kk (lp Tryz.f11 5) [(0, (.slice (some (Addr.mk 0 0 none)) l.length c)), (4, (.string ((((s ++ (headF (ByteArray.mk #[112, 97, 120]) (ByteArray.mk #[]) 0 0 (ByteArray.mk #[120]))) ++ (fullF (ByteArray.mk #[]))) ++ (headF (l.getD (0 + (↑i : Int).toNat) ((0 : (FK.i .i64).T), (ByteArray.mk #[]), (ByteArray.mk #[]), (0 : (FK.i .i64).T), (ByteArray.mk #[]), ())).snd.fst (l.getD (0 + (↑i : Int).toNat) ((0 : (FK.i .i64).T), (ByteArray.mk #[]), (ByteArray.mk #[]), (0 : (FK.i .i64).T), (ByteArray.mk #[]), ())).snd.snd.fst (Int.toNat (l.getD (0 + (↑i : Int).toNat) ((0 : (FK.i .i64).T), (ByteArray.mk #[]), (ByteArray.mk #[]), (0 : (FK.i .i64).T), (ByteArray.mk #[]), ())).snd.snd.snd.fst) (↑(ByteArray.size (l.getD (0 + (↑i : Int).toNat) ((0 : (FK.i .i64).T), (ByteArray.mk #[]), (ByteArray.mk #[]), (0 : (FK.i .i64).T), (ByteArray.mk #[]), ())).snd.snd.snd.snd.fst) : Int).toNat ((ByteArray.mk #[32, 48, 53, 49, 50]).extract (Int.toNat (l.getD (0 + (↑i : Int).toNat) ((0 : (FK.i .i64).T), (ByteArray.mk #[]), (ByteArray.mk #[]), (0 : (FK.i .i64).T), (ByteArray.mk #[]), ())).fst) (IntKind.i64.wrap ((l.getD (0 + (↑i : Int).toNat) ((0 : (FK.i .i64).T), (ByteArray.mk #[]), (ByteArray.mk #[]), (0 : (FK.i .i64).T), (ByteArray.mk #[]), ())).fst + (1 : Int))).toNat))) ++ (fullF (l.getD (0 + (↑i : Int).toNat) ((0 : (FK.i .i64).T), (ByteArray.mk #[]), (ByteArray.mk #[]), (0 : (FK.i .i64).T), (ByteArray.mk #[]), ())).snd.snd.snd.snd.fst)))), (5, (.int .i64 (IntKind.i64.wrap ((↑i : Int) + (1 : Int)))))] [(VB.row (flatC [(FK.i .i64), FK.s, FK.s, (FK.i .i64), FK.s]) 5 l .ro)] K)))))))))) p1))))))) (K (.exit 0) [(4, (.string s))] [(VB.row (flatC [(FK.i .i64), FK.s, FK.s, (FK.i .i64), FK.s]) 5 l .ro)])) (by kernel_rfl) ?_ --share
    have e0 : 0 + (i : Int).toNat = i := by omega
    by_cases hi : i < l.length
    · have g1 : decide ((i : Int) < (l.length : Int)) = true := decide_eq_true (by omega)
      have g2 : decide (0 + (i : Int).toNat < l.length) = true := decide_eq_true (by omega)
      have gx : l[i]? = some (l.getD (0 + (i : Int).toNat) ((0 : (FK.i .i64).T), (ByteArray.mk #[]), (ByteArray.mk #[]), (0 : (FK.i .i64).T), (ByteArray.mk #[]), ())) := by
        rw [e0, List.getD_eq_getElem?_getD, List.getElem?_eq_getElem hi]; rfl
      have w0 : IntKind.i64.wrap ((i : Int) + 1) = ((i + 1 : Nat) : Int) := wrap_id (by omega) (by omega)
      rw [w0]
      clear w0
      generalize l.getD (0 + (i : Int).toNat) ((0 : (FK.i .i64).T), (ByteArray.mk #[]), (ByteArray.mk #[]), (0 : (FK.i .i64).T), (ByteArray.mk #[]), ()) = x at gx ⊢
      obtain ⟨k, n, d, m, b, u, rfl⟩ : ∃ (k : Int) (n d : ByteArray) (m : Int) (b : ByteArray) (u : Unit), x = (k, n, d, m, b, u) := ⟨x.1, x.2.1, x.2.2.1, x.2.2.2.1, x.2.2.2.2.1, x.2.2.2.2.2, rfl⟩
      dsimp only
      obtain ⟨⟨hn, hd, hb⟩, hx1, hx2⟩ := hx k n d m b u gx
      simp only [share]
      refine bcase_t g1 (need_of g1 (need_of (by rw [g2]; rfl) ⟨⟨by omega, by omega⟩, bcase_not (bcase_of (fun hm => ?_) (fun hm => hx1 hm _))⟩))
      obtain ⟨⟨k1, k4, m0, m1⟩, hK⟩ := hx2 hm
      have w1 : IntKind.i64.wrap (k + 1) = k + 1 := wrap_id (by omega) (by omega)
      have z1 : (kindX k).size = 1 := by
        have : k = 1 ∨ k = 2 ∨ k = 3 ∨ k = 4 := by omega
        rcases this with rfl | rfl | rfl | rfl <;> rfl
      have e3 : ∀ q : Int, q = k + 1 → (ByteArray.mk #[32, 48, 53, 49, 50]).extract k.toNat q.toNat = kindX k := fun q e => by rw [e]; rfl
      rw [e3 _ w1, w1]
      have zX := hhead n d m.toNat (b.size : Int).toNat (kindX k) z1
      have zY := hfull b
      have zP : ∀ q : Nat, (headF ⟨#[112, 97, 120]⟩ ⟨#[]⟩ 0 q ⟨#[120]⟩).size = 512 := fun q => hhead _ _ _ _ _ rfl
      have r1 : (recF ⟨#[112, 97, 116, 104]⟩ n).size ≤ 906 := hrec _ n (by show 4 + n.size ≤ 900; omega)
      have r2 : (recF ⟨#[108, 105, 110, 107, 112, 97, 116, 104]⟩ d).size ≤ 906 := hrec _ d (by show 8 + d.size ≤ 900; omega)
      have hK : ∀ t, t = s ++ ((aheadF headF fullF (moreF recF n d) ++ headF n d m.toNat (b.size : Int).toNat (kindX k)) ++ fullF b) → _ := hK
      unfold moreF at hK
      generalize headF n d m.toNat (b.size : Int).toNat (kindX k) = X at zX hK ⊢
      generalize fullF b = Y at zY hK ⊢
      generalize recF ⟨#[112, 97, 116, 104]⟩ n = R1 at r1 hK ⊢
      generalize recF ⟨#[108, 105, 110, 107, 112, 97, 116, 104]⟩ d = R2 at r2 hK ⊢
      generalize kindX k = kd at z1 hK ⊢
      have p2 : (2 : Int) ^ 62 = 4611686018427387904 := by decide
      have e0 : ∀ x : ByteArray, (ByteArray.mk #[]) ++ x = x := fun x => ByteArray.empty_append
      have e1 : ∀ x : ByteArray, x ++ (ByteArray.mk #[]) = x := fun x => ByteArray.append_empty
      have q1 : (decide (0 ≤ k) && (decide (k ≤ k + 1) && decide (k + 1 ≤ 5)) && true && true) = true := by
        rw [decide_eq_true (by omega), decide_eq_true (by omega), decide_eq_true (by omega)]; rfl
      have q2 : ((n.size < 1099511627776 ∧ d.size < 1099511627776) ∧ 0 ≤ m ∧ m < (2 : Int) ^ 62 ∧ (0 : Int) ≤ (b.size : Int) ∧ (b.size : Int) < (2 : Int) ^ 62 ∧ kd.size = 1) :=
        ⟨⟨by omega, by omega⟩, m0, by omega, by omega, by omega, z1⟩
      have nn : ∀ a b : Nat, a + b < 9223372036854775808 → (decide (a + b < 9223372036854775808) && true && true) = true := fun a b h => by rw [decide_eq_true h]; rfl
      refine bcase_of (fun h1 => ?_) (fun h1 => ?_) <;> rw [h1] at hK
      · refine ⟨⟨by omega, by omega⟩, bcase_of (fun h2 => ?_) (fun h2 => ?_)⟩ <;> rw [h2] at hK <;> simp only [cnd_t, cnd_f, e0, e1] at hK
        · refine ⟨⟨by omega, by omega⟩, need_of (decide_eq_true (by omega)) ?_⟩
          have zR : (R1 ++ R2).size ≤ 1812 := by rw [ByteArray.size_append]; omega
          generalize R1 ++ R2 = R at zR hK ⊢
          have zF := hfull R
          refine bcase_not (bcase_of (fun h3 => ?_) (fun h3 => ?_))
          · have ha : aheadF headF fullF R = ⟨#[]⟩ := by unfold aheadF; rw [show isS R [] = true from h3]; rfl
            rw [ha, e0] at hK
            exact need_of q1 ⟨q2, need_of (nn _ _ (by omega)) ⟨by omega, need_of (nn _ _ (by rw [ByteArray.size_append]; omega)) (hK _ (by rw [ByteArray.append_assoc]))⟩⟩
          · have ha : aheadF headF fullF R = headF ⟨#[112, 97, 120]⟩ ⟨#[]⟩ 0 (R.size : Int).toNat ⟨#[120]⟩ ++ fullF R := by unfold aheadF; rw [show isS R [] = false from h3]; rfl
            rw [ha] at hK
            have zH := zP (R.size : Int).toNat
            generalize headF ⟨#[112, 97, 120]⟩ ⟨#[]⟩ 0 (R.size : Int).toNat ⟨#[120]⟩ = Hp at zH hK ⊢
            generalize fullF R = Fp at zF hK ⊢
            refine ⟨⟨⟨by omega, by omega⟩, by omega, by omega, by omega, by omega, trivial⟩, need_of (decide_eq_true (by omega)) ⟨by omega, need_of (decide_eq_true (by rw [ByteArray.size_append]; omega)) (need_of q1 ⟨q2, need_of (nn _ _ (by simp only [ByteArray.size_append]; omega)) ⟨by omega, need_of (nn _ _ (by simp only [ByteArray.size_append]; omega)) (hK _ (by simp only [ByteArray.append_assoc]))⟩⟩)⟩⟩
        · have zR : R1.size ≤ 1812 := by omega
          generalize R1 = R at zR hK ⊢
          have zF := hfull R
          refine bcase_not (bcase_of (fun h3 => ?_) (fun h3 => ?_))
          · have ha : aheadF headF fullF R = ⟨#[]⟩ := by unfold aheadF; rw [show isS R [] = true from h3]; rfl
            rw [ha, e0] at hK
            exact need_of q1 ⟨q2, need_of (nn _ _ (by omega)) ⟨by omega, need_of (nn _ _ (by rw [ByteArray.size_append]; omega)) (hK _ (by rw [ByteArray.append_assoc]))⟩⟩
          · have ha : aheadF headF fullF R = headF ⟨#[112, 97, 120]⟩ ⟨#[]⟩ 0 (R.size : Int).toNat ⟨#[120]⟩ ++ fullF R := by unfold aheadF; rw [show isS R [] = false from h3]; rfl
            rw [ha] at hK
            have zH := zP (R.size : Int).toNat
            generalize headF ⟨#[112, 97, 120]⟩ ⟨#[]⟩ 0 (R.size : Int).toNat ⟨#[120]⟩ = Hp at zH hK ⊢
            generalize fullF R = Fp at zF hK ⊢
            refine ⟨⟨⟨by omega, by omega⟩, by omega, by omega, by omega, by omega, trivial⟩, need_of (decide_eq_true (by omega)) ⟨by omega, need_of (decide_eq_true (by rw [ByteArray.size_append]; omega)) (need_of q1 ⟨q2, need_of (nn _ _ (by simp only [ByteArray.size_append]; omega)) ⟨by omega, need_of (nn _ _ (by simp only [ByteArray.size_append]; omega)) (hK _ (by simp only [ByteArray.append_assoc]))⟩⟩)⟩⟩
      · refine bcase_of (fun h2 => ?_) (fun h2 => ?_) <;> rw [h2] at hK <;> simp only [cnd_t, cnd_f, e0, e1] at hK
        · refine ⟨⟨by omega, by omega⟩, need_of (decide_eq_true (by omega)) ?_⟩
          rw [← e0 R2] at r2 hK
          have zR : ((ByteArray.mk #[]) ++ R2).size ≤ 1812 := by omega
          generalize (ByteArray.mk #[]) ++ R2 = R at zR hK ⊢
          have zF := hfull R
          refine bcase_not (bcase_of (fun h3 => ?_) (fun h3 => ?_))
          · have ha : aheadF headF fullF R = ⟨#[]⟩ := by unfold aheadF; rw [show isS R [] = true from h3]; rfl
            rw [ha, e0] at hK
            exact need_of q1 ⟨q2, need_of (nn _ _ (by omega)) ⟨by omega, need_of (nn _ _ (by rw [ByteArray.size_append]; omega)) (hK _ (by rw [ByteArray.append_assoc]))⟩⟩
          · have ha : aheadF headF fullF R = headF ⟨#[112, 97, 120]⟩ ⟨#[]⟩ 0 (R.size : Int).toNat ⟨#[120]⟩ ++ fullF R := by unfold aheadF; rw [show isS R [] = false from h3]; rfl
            rw [ha] at hK
            have zH := zP (R.size : Int).toNat
            generalize headF ⟨#[112, 97, 120]⟩ ⟨#[]⟩ 0 (R.size : Int).toNat ⟨#[120]⟩ = Hp at zH hK ⊢
            generalize fullF R = Fp at zF hK ⊢
            refine ⟨⟨⟨by omega, by omega⟩, by omega, by omega, by omega, by omega, trivial⟩, need_of (decide_eq_true (by omega)) ⟨by omega, need_of (decide_eq_true (by rw [ByteArray.size_append]; omega)) (need_of q1 ⟨q2, need_of (nn _ _ (by simp only [ByteArray.size_append]; omega)) ⟨by omega, need_of (nn _ _ (by simp only [ByteArray.size_append]; omega)) (hK _ (by simp only [ByteArray.append_assoc]))⟩⟩)⟩⟩
        · have ha : aheadF headF fullF ⟨#[]⟩ = ⟨#[]⟩ := by unfold aheadF; rw [show isS ⟨#[]⟩ [] = true from beq_self_eq_true _]; rfl
          rw [ha, e0] at hK
          exact bcase_not (bcase_t (beq_self_eq_true _) (need_of q1 ⟨q2, need_of (nn _ _ (by omega)) ⟨by omega, need_of (nn _ _ (by rw [ByteArray.size_append]; omega)) (hK _ (by rw [ByteArray.append_assoc]))⟩⟩))
    · have g1 : decide ((i : Int) < (l.length : Int)) = false := decide_eq_false (by omega)
      simp only [share]
      exact bcase_f g1 (hexit hi)
end
def wrCat : List Ent → ByteArray → ByteArray
  | [], s => s
  | x :: r, s => wrCat r (s ++ entTxt x)
theorem wrFrom_eq : ∀ (l : List Ent) (s : ByteArray), wrFrom l s = bif l.all entMay then some (wrCat l s) else none
  | [], s => rfl
  | x :: r, s => by
    show (bif entMay x then wrWith entMay entTxt r (s ++ entTxt x) else none) = bif entMay x && r.all entMay then some (wrCat r (s ++ entTxt x)) else none
    have ih := wrFrom_eq r (s ++ entTxt x)
    cases entMay x with
    | false => rfl
    | true => exact ih
/-- The reference's loop over entries. -/
def rwLp : LSpec
  | [(0, .slice (some ⟨0, 0, none⟩) n c), (4, .string s), (5, .int .i64 i)], H, K => ∃ l : List Ent, (i = 0 ∧ n = l.length ∧ l.length ≤ 200 ∧ (∀ x ∈ l, EntZ x) ∧ s.size = 0 ∧ H = [.row entC 5 l .ro]) ∧
      bcase (l.all entMay) (K (.exit 0) [(4, .string (wrCat l s))] [.row entC 5 l .ro]) (∀ x : List Value, K .ret [(2, .string ⟨#[]⟩), (3, .int .i64 2)] [.row entC 5 l .ro, .row raw 5 [x] .own])
  | _, _, _ => False
theorem entTxt_eq (x : Ent) (h1 : 1 ≤ x.1) (h4 : x.1 ≤ 4) : entTxt x = txtF recS headS fullT x.1 x.2.1 x.2.2.1 x.2.2.2.1 x.2.2.2.2.1 := by
  unfold entTxt entS restS txtF kindX
  rw [rkind h1 h4]
  rfl
abbrev rcall11 : FuncId → Spec := callOf [(21, pureS mayG), (22, pureS recG), (23, pureS headG), (24, pureS fullG), (25, pureS zerosG)]
theorem headS_one (n d : ByteArray) (m b : Nat) (k : ByteArray) (h : k.size = 1) : (headS n d m b k).size = 512 := by
  unfold headS
  simp only [ByteArray.size_append, headA_size, headB_size, octS_size _ 7 (show 1 ≤ 7 by omega), h]
  rfl
theorem recS_le (a n : ByteArray) (h : a.size + n.size ≤ 900) : (recS a n).size ≤ 906 := by
  rw [recS_size _ n h]
  have hN : ∀ m, m ≤ 900 → recN m ≤ 906 := fun m h => by unfold recN; split <;> first | omega | (split <;> omega)
  exact hN _ h
theorem rw_rounds (l : List Ent) (c : Nat) (hl : l.length ≤ 200) (hz : ∀ x ∈ l, EntZ x) (K : Kont) : ∀ (d i : Nat) (s : ByteArray), i + d = l.length → s.size ≤ i * 2 ^ 31 →
    (∀ t, wrFrom (l.drop i) s = some t → exit11 l K t) → (wrFrom (l.drop i) s = none → ret11 l K) →
    rnds Tryz.prog rcall11 (hints 11) noTab (d + 1) (lp Tryz.f11 5) [(0, .slice (some ⟨0, 0, none⟩) l.length c), (4, .string s), (5, .int .i64 (i : Int))] [.row entC 5 l .ro] K
  | 0, i, s, hi, hs, h1, h2 => by
    have he : rcall11 = call11 mayR recS headS fullT := rfl
    rw [he]
    refine rw_step mayR recS headS fullT headS_one fullT_size recS_le l c hl K 0 i s (by omega) (fun _ => h1 s ?_) fun k n d m b u hx => ?_
    · rw [List.drop_of_length_le (by omega)]; rfl
    · have := (List.getElem?_eq_some_iff.1 hx).1
      omega
  | d + 1, i, s, hi, hs, h1, h2 => by
    have ih := fun s => rw_rounds l c hl hz K d (i + 1) s (by omega)
    have he : rcall11 = call11 mayR recS headS fullT := rfl
    rw [he] at ih ⊢
    refine rw_step mayR recS headS fullT headS_one fullT_size recS_le l c hl K (d + 1) i s (by omega) (fun h => absurd (by omega) h) fun k n dd m b u hx => ?_
    obtain ⟨hlt, hx'⟩ := List.getElem?_eq_some_iff.1 hx
    have hd : l.drop i = (k, n, dd, m, b, u) :: l.drop (i + 1) := by rw [List.drop_eq_getElem_cons hlt, hx']
    have z := hz (k, n, dd, m, b, u) (List.mem_of_getElem? hx)
    rw [hd] at h1 h2
    refine ⟨⟨z.n, z.d, z.b⟩, fun hm => h2 ?_, fun hm => ?_⟩
    · have hm' : entMay (k, n, dd, m, b, u) = false := hm
      rw [wrFrom, wrWith, hm']; rfl
    · obtain ⟨k1, k4, m0, m1⟩ := mayR_k hm
      refine ⟨⟨k1, k4, m0, m1⟩, fun t ht => ?_⟩
      have hm' : entMay (k, n, dd, m, b, u) = true := hm
      have e := entTxt_eq (k, n, dd, m, b, u) k1 k4
      have ht' : t = s ++ entTxt (k, n, dd, m, b, u) := by rw [e]; exact ht
      have zs := entS_size (k := k) (n := n) (d := dd) (m := m) (b := b) z.n z.d
      have zb : b.size < 2 ^ 30 := z.b
      have zs' : (entTxt (k, n, dd, m, b, u)).size ≤ b.size + 10000 := zs
      have hw : wrFrom ((k, n, dd, m, b, u) :: l.drop (i + 1)) s = wrFrom (l.drop (i + 1)) t := by
        rw [ht']
        show wrWith entMay entTxt (_ :: _) s = _
        rw [wrWith, hm']; rfl
      rw [hw] at h1 h2
      refine ih t ?_ h1 h2
      rw [ht', ByteArray.size_append]
      omega
end Go.Proofs.YtbgilaacfbinbaaGreatDoor.PM

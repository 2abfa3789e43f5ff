/- Contracts of strings.IndexRune and IndexAny at the set that told looks for. Contracts of strings.IndexRune and IndexAny at the set that told looks for. Contracts of strings.IndexAny and ContainsAny at the set that told looks for, and of told. Contracts of strings.ContainsAny at the set that told looks for, told, Trim, port, Contains, split. refs.path: a range over strings.SplitSeq, by the kit's walk. refs.domain: a range over strings.SplitSeq, by the kit's walk. Contracts of refs.Check, Text, Short. Contract of refs.Short. Contract of strings.IndexRune at the digits of a digest. Contract of digests.Parse. Contract of refs.Parse. Contract of refs.Parse, its tag and the whole. What Parse tells may be handed on; the chapter's names. Contract of named. The walks of the statements RefsTell and RefsParse. The program's paths, domains, tags against the reference's: plain lists. The program's domains against the reference's. The program's parts of paths against the reference's. By an AI agent. -/
import Derived.Test.YtofcjkbgieenlaaDoorRowRefsPartsC
import Derived.Laws.RangeAny
import Derived.Laws.RangeString
import Derived.Shelf.Strings.SlTrimAscii
import Derived.Outline
set_option linter.unusedVariables false
set_option linter.unusedSimpArgs false
namespace Go.Proofs.YtofcjkbgieenlaaDoor.PM
open Go Go.Proofs Go.RowKit
set_option maxRecDepth 100000
set_option linter.unusedVariables false
set_option linter.unusedSimpArgs false

abbrev dots : ByteArray := (ByteArray.mk #[46, 58])
def validG : Pure
  | [.int .i32 r] => some (True, .bool (Lib.validRune r))
  | _ => none
theorem valid_ok : PureOk Tryd.prog 54 validG :=
  .of_shelf Tryd.func54 (by kernel_rfl) rfl fun args c r hg => by
    unfold validG at hg
    split at hg
    · rename_i x
      cases hg
      exact ⟨rfl, fun _ => ⟨rfl, fun w => (Tryd.utf8_ValidRune x w).mono fun e w' k => ⟨k.1, by rw [k.2]; exact Below.refl _ _⟩⟩⟩
    · cases hg
def indexByteG : Pure
  | [.string s, .int .u8 c] => some (True, .int .i64 (Lib.indexByte s.data.toList c.toNat.toUInt8))
  | _ => none
theorem indexByte_ok : PureOk Tryd.prog 53 indexByteG :=
  .of_shelf Tryd.func53 (by kernel_rfl) rfl fun args c r hg => by
    unfold indexByteG at hg
    split at hg
    · rename_i s c
      cases hg
      exact ⟨rfl, fun _ => ⟨rfl, fun w => (Tryd.strings_IndexByte s c w).mono fun e w' k => ⟨k.1, by rw [k.2]; exact Below.refl _ _⟩⟩⟩
    · cases hg
/-- What comes of a rune. -/
def irS (r : Int) : Int := bif r == 46 then 0 else bif r == 58 then 1 else -1
def irG : Pure
  | [.string s, .int .i32 r] => some (s = dots ∧ 0 ≤ r ∧ r ≤ 2147483647, .int .i64 (irS r))
  | _ => none
def never : LSpec := fun _ _ _ => False
def lookLp : LSpec
  | [(0, .string s), (7, .string rs), (8, .int .i64 last), (9, .int .i64 i)], [], K => (s = dots ∧ i = last ∧ last = (rs.size : Int) - 1 ∧ 2 ≤ rs.size ∧ rs.size ≤ 4 ∧ 128 ≤ bt rs ((rs.size : Int) - 1)) ∧
      bcase (decide (rs.size = 2)) (K .ret [(4, .int .i64 (-1))] []) (K (.exit 1) [] [])
  | _, _, _ => False
def tab37 : Tab := ⟨fun | 12 => some never | _ => none, fun _ => none⟩
theorem look_round (rs : ByteArray) (h2 : 2 ≤ rs.size) (h4 : rs.size ≤ 4) (hl : 128 ≤ bt rs ((rs.size : Int) - 1)) (K : Kont) (hK : bcase (decide (rs.size = 2)) (K .ret [(4, .int .i64 (-1))] []) (K (.exit 1) [] [])) :
    rnds Tryd.prog (callOf [(53, pureS indexByteG)]) (hints 37) tab37 1 (lp Tryd.f37 5) [(0, .string dots), (7, .string rs), (8, .int .i64 ((rs.size : Int) - 1)), (9, .int .i64 ((rs.size : Int) - 1))] [] K := by
  have hw : IntKind.i64.wrap (((rs.size : Int) - 1) + 1) = ((rs.size : Int) - 1) + 1 := wrap_id (by omega) (by omega)
  refine to (R := bcase (decide (((↑rs.size : Int) - (1 : Int)) < (↑2 : Int))) (need ((decide ((0 : Int) ≤ ((↑rs.size : Int) - (1 : Int)))) && (decide (((↑rs.size : Int) - (1 : Int)) < (↑2 : Int)))) (need ((decide ((0 : Int) ≤ ((↑rs.size : Int) - (1 : Int)))) && (decide (((↑rs.size : Int) - (1 : Int)) < (↑rs.size : Int)))) (bcase ((bt dots ((↑rs.size : Int) - (1 : Int))) != (bt rs ((↑rs.size : Int) - (1 : Int)))) (need ((decide ((0 : Int) ≤ (IntKind.i64.wrap (((↑rs.size : Int) - (1 : Int)) + (1 : Int))))) && ((decide ((IntKind.i64.wrap (((↑rs.size : Int) - (1 : Int)) + (1 : Int))) ≤ (↑2 : Int))) && true)) (need ((decide ((0 : Int) ≤ ((↑rs.size : Int) - (1 : Int)))) && (decide (((↑rs.size : Int) - (1 : Int)) < (↑rs.size : Int)))) (True ∧ (bcase (decide ((Lib.indexByte (dots.extract (IntKind.i64.wrap (((↑rs.size : Int) - (1 : Int)) + (1 : Int))).toNat 2).data.toList (bt rs ((↑rs.size : Int) - (1 : Int))).toNat.toUInt8) < (0 : Int))) (K .ret [(4, (.int .i64 ((-1) : Int)))] []) False)))) False))) (K (.exit 1) [] [])) (by kernel_rfl) ?_
  rw [hw]
  by_cases h : rs.size = 2
  · have e1 : ((rs.size : Int) - 1) = 1 := by omega
    rw [decide_eq_true h, bcase_tt] at hK
    rw [e1] at hl ⊢
    refine bcase_t rfl (need_of rfl (need_of (by simp; omega) (bcase_t ?_ (need_of rfl (need_of (by simp; omega) ⟨trivial, bcase_t rfl hK⟩)))))
    have : bt dots 1 = 58 := rfl
    rw [this]
    simp only [bne_iff_ne, ne_eq]
    omega
  · rw [decide_eq_false h, bcase_ff] at hK
    exact bcase_f (by simp; omega) hK
theorem lookLp_ok : CodeOk Tryd.prog Tryd.f37.ntmps (.loop (lp Tryd.f37 5)) lookLp := by
  refine loop_ok (call := callOf [(53, pureS indexByteG)]) (hint := hints 37) (tb := tab37) hm (callOf_cons indexByte_ok.spec callOf_nil) (by kernel_rfl) (by repeat' first | exact trivial | constructor | (intro _ h; cases h; exact fun _ _ _ _ _ _ _ _ _ _ h => h.elim) | (intro _ h; cases h)) fun fr H K h => ?_
  unfold lookLp at h
  split at h
  · obtain ⟨⟨rfl, rfl, rfl, h2, h4, hl⟩, hK⟩ := h
    exact ⟨_, look_round _ h2 h4 hl _ hK⟩
  · exact h.elim
def rngLp : LSpec
  | [(175, .pointer (some ⟨0, 0, some 0⟩))], H, K => (H = [.iter dots 0]) ∧ K (.exit 9) [] [.iter dots 2]
  | _, _, _ => False
theorem rng2 (K : Kont) (h : K (.exit 9) [] [.iter dots 2]) : rnds Tryd.prog (callOf []) (hints 37) noTab 1 (lp Tryd.f37 38) [(175, pt 0)] [.iter dots 2] K := by
  refine to (R := K (.exit 9) [] [(VB.iter dots 2)]) (by kernel_rfl) ?_
  exact h
theorem rng1 (K : Kont) (n : Nat) (h : rnds Tryd.prog (callOf []) (hints 37) noTab n (lp Tryd.f37 38) [(175, pt 0)] [.iter dots 2] K) : rnds Tryd.prog (callOf []) (hints 37) noTab (n + 1) (lp Tryd.f37 38) [(175, pt 0)] [.iter dots 1] K := by
  refine to (R := rnds Tryd.prog (callOf []) (hints 37) noTab n (lp Tryd.f37 38) [(175, (.pointer (some (Addr.mk 0 0 (some 0)))))] [(VB.iter dots 2)] K) (by kernel_rfl) ?_
  exact h
theorem rng0 (K : Kont) (n : Nat) (h : rnds Tryd.prog (callOf []) (hints 37) noTab n (lp Tryd.f37 38) [(175, pt 0)] [.iter dots 1] K) : rnds Tryd.prog (callOf []) (hints 37) noTab (n + 1) (lp Tryd.f37 38) [(175, pt 0)] [.iter dots 0] K := by
  refine to (R := rnds Tryd.prog (callOf []) (hints 37) noTab n (lp Tryd.f37 38) [(175, (.pointer (some (Addr.mk 0 0 (some 0)))))] [(VB.iter dots 1)] K) (by kernel_rfl) ?_
  exact h
theorem rngLp_ok : CodeOk Tryd.prog Tryd.f37.ntmps (.loop (lp Tryd.f37 38)) rngLp := by
  refine loop_ok (call := callOf []) (hint := hints 37) (tb := noTab) hm (callOf_nil) (by kernel_rfl) (by repeat' first | exact trivial | constructor |  (intro _ h; cases h)) fun fr H K h => ?_
  unfold rngLp at h
  split at h
  · obtain ⟨rfl, hK⟩ := h
    exact ⟨3, rng0 _ 2 (rng1 _ 1 (rng2 _ hK))⟩
  · exact h.elim
theorem bt2 (a b : UInt8) : bt ⟨#[a, b]⟩ (((⟨#[a, b]⟩ : ByteArray).size : Int) - 1) = (b.toNat : Int) := rfl
theorem bt3 (a b c : UInt8) : bt ⟨#[a, b, c]⟩ (((⟨#[a, b, c]⟩ : ByteArray).size : Int) - 1) = (c.toNat : Int) := rfl
theorem bt4 (a b c d : UInt8) : bt ⟨#[a, b, c, d]⟩ (((⟨#[a, b, c, d]⟩ : ByteArray).size : Int) - 1) = (d.toNat : Int) := rfl
theorem high (n : Nat) : 128 ≤ (UInt8.ofNat (0x80 + n % 64)).toNat := by
  rw [UInt8.toNat_ofNat']
  omega
theorem enc_of (s : ByteArray) (a b c d : UInt8) (h : s = ⟨#[a, b]⟩ ∧ 128 ≤ b.toNat ∨ s = ⟨#[a, b, c]⟩ ∧ 128 ≤ c.toNat ∨ s = ⟨#[a, b, c, d]⟩ ∧ 128 ≤ d.toNat) : 2 ≤ s.size ∧ s.size ≤ 4 ∧ 128 ≤ bt s ((s.size : Int) - 1) := by
  rcases h with ⟨rfl, h⟩ | ⟨rfl, h⟩ | ⟨rfl, h⟩
  · rw [bt2]; exact ⟨Nat.le_refl 2, by show 2 ≤ 4; omega, by omega⟩
  · rw [bt3]; exact ⟨by show 2 ≤ 3; omega, by show 3 ≤ 4; omega, by omega⟩
  · rw [bt4]; exact ⟨by show 2 ≤ 4; omega, Nat.le_refl 4, by omega⟩
theorem enc_facts (r : Int) (h : 128 ≤ r) : 2 ≤ (Utf8.encode r).size ∧ (Utf8.encode r).size ≤ 4 ∧ 128 ≤ bt (Utf8.encode r) (((Utf8.encode r).size : Int) - 1) := by
  unfold Utf8.encode
  obtain ⟨c, hc⟩ : ∃ c, c = (if Utf8.valid r then r.toNat else Utf8.runeError) := ⟨_, rfl⟩
  have hc2 : 128 ≤ c := by
    rw [hc]
    split
    · omega
    · decide
  rw [← hc]
  simp only
  split
  · omega
  · split
    · exact enc_of _ _ _ 0 0 (.inl ⟨rfl, high _⟩)
    · split
      · exact enc_of _ _ _ _ 0 (.inr (.inl ⟨rfl, high _⟩))
      · exact enc_of _ _ _ _ _ (.inr (.inr ⟨rfl, high _⟩))
end Go.Proofs.YtofcjkbgieenlaaDoor.PM

namespace Go.Proofs.YtofcjkbgieenlaaDoor.PM
open Go Go.Proofs Go.RowKit
set_option maxRecDepth 100000
set_option linter.unusedVariables false
set_option linter.unusedSimpArgs false

def tab37' : Tab := ⟨fun | 12 => some never | 5 => some lookLp | 38 => some rngLp | _ => none, fun _ => none⟩
theorem low_ir (n : Nat) (h : n < 128) : Lib.indexByte dots.data.toList n.toUInt8 = irS (n : Int) := by
  have : ∀ n : Fin 128, Lib.indexByte dots.data.toList n.val.toUInt8 = irS (n.val : Int) := by decide
  exact this ⟨n, h⟩
attribute [local irreducible] Utf8.encode Lib.validRune
theorem ir_ok : PureOk Tryd.prog 37 irG := by
  refine .of_run (call := callOf [(53, pureS indexByteG), (54, pureS validG)]) (hint := hints 37) (tb := tab37') hm (callOf_cons indexByte_ok.spec (callOf_cons valid_ok.spec callOf_nil)) Tryd.func37 (by kernel_rfl) rfl (by kernel_rfl) (by repeat' first | exact trivial | constructor | (intro _ h; cases h; exact fun _ _ _ _ _ _ _ _ _ _ h => h.elim) | (intro _ h; cases h; exact lookLp_ok) | (intro _ h; cases h; exact rngLp_ok) | (intro _ h; cases h)) fun args c r h => ?_
  unfold irG at h
  split at h
  · rename_i s r
    cases h
    refine ⟨rfl, fun hs => ⟨rfl, 1, fun K hK => ?_⟩⟩
    obtain ⟨rfl, h0, h1⟩ := hs
    have he := fun h => enc_facts r h
    have hwr : 128 ≤ r → IntKind.i64.wrap ((↑(Utf8.encode r).size : Int) - (1 : Int)) = (↑(Utf8.encode r).size : Int) - (1 : Int) := fun h => by
      have := he h
      exact wrap_id (by omega) (by omega)
    have low : r < 128 → Lib.indexByte dots.data.toList (IntKind.u8.wrap r).toNat.toUInt8 = irS r := fun h => by
      have hq : IntKind.u8.wrap r = r := by show r % 256 = r; omega
      rw [hq]
      obtain ⟨n, rfl⟩ : ∃ n : Nat, r = (n : Int) := ⟨r.toNat, by omega⟩
      rw [Int.toNat_natCast]
      have hn : n < 128 := by omega
      exact low_ir n hn
    have hi : ¬ r < 128 → irS r = -1 := fun h => by
      unfold irS
      have h1 : (r == 46) = false := by simp; omega
      have h2 : (r == 58) = false := by simp; omega
      rw [h1, h2]; rfl
    have hK := hK []
    refine to (R := bcase (decide ((0 : Int) ≤ r)) (bcase (decide (r < (128 : Int))) (True ∧ (K (.int .i64 (Lib.indexByte dots.data.toList (IntKind.u8.wrap r).toNat.toUInt8)) [])) (bcase (r == (65533 : Int)) (([(VB.iter dots 0)] = [(VB.iter dots 0)]) ∧ (K (.int .i64 ((-1) : Int)) [])) (True ∧ (bcase (!(Lib.validRune r)) (K (.int .i64 ((-1) : Int)) []) (((dots = dots) ∧ (((IntKind.i64.wrap ((↑(Utf8.encode r).size : Int) - (1 : Int))) = (IntKind.i64.wrap ((↑(Utf8.encode r).size : Int) - (1 : Int)))) ∧ (((IntKind.i64.wrap ((↑(Utf8.encode r).size : Int) - (1 : Int))) = ((↑(Utf8.encode r).size : Int) - (1 : Int))) ∧ ((2 ≤ (Utf8.encode r).size) ∧ (((Utf8.encode r).size ≤ 4) ∧ ((128 : Int) ≤ (bt (Utf8.encode r) ((↑(Utf8.encode r).size : Int) - (1 : Int))))))))) ∧ (bcase (decide ((Utf8.encode r).size = 2)) (K (.int .i64 ((-1) : Int)) []) (K (.int .i64 ((-1) : Int)) []))))))) (bcase (r == (65533 : Int)) (([(VB.iter dots 0)] = [(VB.iter dots 0)]) ∧ (K (.int .i64 ((-1) : Int)) [])) (True ∧ (bcase (!(Lib.validRune r)) (K (.int .i64 ((-1) : Int)) []) (((dots = dots) ∧ (((IntKind.i64.wrap ((↑(Utf8.encode r).size : Int) - (1 : Int))) = (IntKind.i64.wrap ((↑(Utf8.encode r).size : Int) - (1 : Int)))) ∧ (((IntKind.i64.wrap ((↑(Utf8.encode r).size : Int) - (1 : Int))) = ((↑(Utf8.encode r).size : Int) - (1 : Int))) ∧ ((2 ≤ (Utf8.encode r).size) ∧ (((Utf8.encode r).size ≤ 4) ∧ ((128 : Int) ≤ (bt (Utf8.encode r) ((↑(Utf8.encode r).size : Int) - (1 : Int))))))))) ∧ (bcase (decide ((Utf8.encode r).size = 2)) (K (.int .i64 ((-1) : Int)) []) (K (.int .i64 ((-1) : Int)) []))))))) (by kernel_rfl) ?_
    refine bcase_t (by simp; omega) (bcase_of (fun h => ⟨trivial, ?_⟩) (fun h => ?_))
    · rw [low (of_decide_eq_true h)]
      exact hK
    · have h := of_decide_eq_false h
      have hr : 128 ≤ r := by omega
      rw [hi h] at hK
      rw [hwr hr]
      obtain ⟨e1, e2, e3⟩ := he hr
      refine bcase_of (fun _ => ⟨rfl, hK⟩) (fun _ => ⟨trivial, bcase_of (fun _ => hK) (fun _ => ⟨⟨rfl, rfl, rfl, e1, e2, e3⟩, bcase_of (fun _ => hK) (fun _ => hK)⟩)⟩)
  · cases h
end Go.Proofs.YtofcjkbgieenlaaDoor.PM

namespace Go.Proofs.YtofcjkbgieenlaaDoor.PM
open Go Go.Proofs Go.RowKit
set_option maxRecDepth 100000
set_option linter.unusedVariables false
set_option linter.unusedSimpArgs false

def longG : Pure
  | [.int .i64 n] => some (True, .bool (decide (8 < n)))
  | _ => none
theorem long_ok : PureOk Tryd.prog 70 longG :=
  .of_shelf Tryd.func70 (by kernel_rfl) rfl fun args c r hg => by
    unfold longG at hg
    split at hg
    · rename_i n
      cases hg
      exact ⟨rfl, fun _ => ⟨rfl, fun w => (Tryd.strings_shouldUseASCIISet n w).mono fun e w' k => ⟨k.1, by rw [k.2]; exact Below.refl _ _⟩⟩⟩
    · cases hg
/-- Where a rune that is looked for stands. -/
def iaFrom (s : ByteArray) : Nat → Nat → Int
  | 0, _ => -1
  | d + 1, pos => bif decide (pos < s.size) then (bif decide (irS ((Utf8.decode s pos).1 : Int) ≥ 0) then (pos : Int) else iaFrom s d (pos + (Utf8.decode s pos).2)) else -1
def iaLp : LSpec
  | [(1, .string t), (45, .pointer (some ⟨0, 0, some 0⟩))], H, K => ∃ s : ByteArray, (H = [.iter s 0] ∧ t = dots ∧ s.size ≤ 8) ∧
      bcase (decide (iaFrom s 9 0 ≥ 0)) (∀ p, K .ret [(4, .int .i64 (iaFrom s 9 0))] [.iter s p]) (∀ p, K (.exit 2) [] [.iter s p])
  | _, _, _ => False
theorem dec_pos (s : ByteArray) (pos : Nat) (h : pos < s.size) : 1 ≤ (Utf8.decode s pos).2 := by
  by_cases ha : (s[pos]'h).toNat < 128
  · rw [decode_ascii s pos h ha]; exact Nat.le_refl _
  · exact (decode_high s pos h (by omega)).2
theorem ia_rounds (s : ByteArray) (hs : s.size ≤ 8) (K : Kont) : ∀ (d pos : Nat), s.size ≤ pos + d →
    bcase (decide (iaFrom s (d + 1) pos ≥ 0)) (∀ p, K .ret [(4, .int .i64 (iaFrom s (d + 1) pos))] [.iter s p]) (∀ p, K (.exit 2) [] [.iter s p]) →
    rnds Tryd.prog (callOf [(37, pureS irG)]) (hints 61) noTab (d + 1) (lp Tryd.f61 18) [(1, .string dots), (45, pt 0)] [.iter s pos] K
  | 0, pos, hd, hK => by
    have h0 : decide (pos < s.size) = false := decide_eq_false (by omega)
    rw [iaFrom, h0] at hK
    refine to (R := bcase (decide (pos < s.size)) (((dots = dots) ∧ (((0 : Int) ≤ (↑(Utf8.decode s pos).fst : Int)) ∧ ((↑(Utf8.decode s pos).fst : Int) ≤ (2147483647 : Int)))) ∧ (bcase (decide ((irS (↑(Utf8.decode s pos).fst : Int)) ≥ (0 : Int))) (K .ret [(4, (.int .i64 (↑pos : Int)))] [(VB.iter s (pos + (Utf8.decode s pos).snd))]) (rnds Tryd.prog (callOf [(37, (pureS irG))]) (hints 61) noTab (nat_lit 0) (lp Tryd.f61 18) [(1, (.string dots)), (45, (.pointer (some (Addr.mk 0 0 (some 0)))))] [(VB.iter s (pos + (Utf8.decode s pos).snd))] K))) (K (.exit 2) [] [(VB.iter s pos)])) (by kernel_rfl) ?_
    exact bcase_f h0 (hK _)
  | d + 1, pos, hd, hK => by
    have ih := ia_rounds s hs K d (pos + (Utf8.decode s pos).2)
    have hle := decode_le s pos
    have hpos := dec_pos s pos
    rw [iaFrom] at hK
    obtain ⟨n, hn⟩ : ∃ n, n = d + 1 := ⟨_, rfl⟩; rw [← hn] at ih ⊢
    refine to (R := bcase (decide (pos < s.size)) (((dots = dots) ∧ (((0 : Int) ≤ (↑(Utf8.decode s pos).fst : Int)) ∧ ((↑(Utf8.decode s pos).fst : Int) ≤ (2147483647 : Int)))) ∧ (bcase (decide ((irS (↑(Utf8.decode s pos).fst : Int)) ≥ (0 : Int))) (K .ret [(4, (.int .i64 (↑pos : Int)))] [(VB.iter s (pos + (Utf8.decode s pos).snd))]) (rnds Tryd.prog (callOf [(37, (pureS irG))]) (hints 61) noTab n (lp Tryd.f61 18) [(1, (.string dots)), (45, (.pointer (some (Addr.mk 0 0 (some 0)))))] [(VB.iter s (pos + (Utf8.decode s pos).snd))] K))) (K (.exit 2) [] [(VB.iter s pos)])) (by kernel_rfl) ?_
    refine bcase_of (fun h => ⟨⟨rfl, by omega, by omega⟩, bcase_of (fun h2 => ?_) (fun h2 => ?_)⟩) (fun h => ?_)
    · simp only [h, h2, cond_true] at hK
      rw [decide_eq_true (by omega : (pos : Int) ≥ 0)] at hK
      exact hK _
    · simp only [h, h2, cond_true, cond_false] at hK
      have := hpos (of_decide_eq_true h)
      rw [← hn] at hK
      exact ih (by omega) hK
    · simp only [h, cond_false] at hK
      exact hK _
theorem iaLp_ok : CodeOk Tryd.prog Tryd.f61.ntmps (.loop (lp Tryd.f61 18)) iaLp := by
  refine loop_ok (call := callOf [(37, pureS irG)]) (hint := hints 61) (tb := noTab) hm (callOf_cons ir_ok.spec callOf_nil) (by kernel_rfl) (by repeat' first | exact trivial | constructor |  (intro _ h; cases h)) fun fr H K h => ?_
  unfold iaLp at h
  split at h
  · obtain ⟨s, ⟨rfl, rfl, hs⟩, hK⟩ := h
    exact ⟨9, ia_rounds s hs _ 8 0 (by omega) hK⟩
  · exact h.elim
attribute [irreducible] iaFrom
def tab61 : Tab := ⟨fun | 12 => some never | 18 => some iaLp | _ => none, fun _ => none⟩
def iaG : Pure
  | [.string s, .string t] => some (t = dots ∧ s.size ≤ 8, .int .i64 (bif decide (iaFrom s 9 0 ≥ 0) then iaFrom s 9 0 else -1))
  | _ => none
theorem ia_ok : PureOk Tryd.prog 61 iaG := by
  refine .of_run (call := callOf [(37, pureS irG), (70, pureS longG)]) (hint := hints 61) (tb := tab61) hm (callOf_cons ir_ok.spec (callOf_cons long_ok.spec callOf_nil)) Tryd.func61 (by kernel_rfl) rfl (by kernel_rfl) (by repeat' first | exact trivial | constructor | (intro _ h; cases h; exact fun _ _ _ _ _ _ _ _ _ _ h => h.elim) | (intro _ h; cases h; exact iaLp_ok) | (intro _ h; cases h)) fun args c r h => ?_
  unfold iaG at h
  split at h
  · rename_i s t
    cases h
    refine ⟨rfl, fun hs => ⟨rfl, 1, fun K hK => ?_⟩⟩
    obtain ⟨rfl, h1⟩ := hs
    refine to (R := bcase (dots.toList == (ByteArray.mk #[]).toList) (K (.int .i64 ((-1) : Int)) []) (True ∧ (bcase (decide ((8 : Int) < (↑s.size : Int))) False (∃ (s_1 : ByteArray), ((([(VB.iter s 0)] = [(VB.iter s_1 0)]) ∧ ((dots = dots) ∧ (s_1.size ≤ 8))) ∧ (bcase (decide ((iaFrom s_1 9 0) ≥ (0 : Int))) (∀ (p : Nat), (K (.int .i64 (iaFrom s_1 9 0)) [])) (∀ (p : Nat), (K (.int .i64 ((-1) : Int)) [])))))))) (by kernel_rfl) ?_
    have hK := hK []
    refine bcase_f (by rw [toList_empty]; rfl) ⟨trivial, bcase_f (by simp; omega) ⟨s, ⟨rfl, rfl, h1⟩, bcase_of (fun h => ?_) (fun h => ?_)⟩⟩
    · rw [h] at hK
      exact fun _ => hK
    · rw [h] at hK
      exact fun _ => hK
  · cases h
theorem getb (s : ByteArray) (i : Nat) (h : i < s.size) : (s.get! i) = (li s)[i]'(by rw [li_size]; exact h) := by
  have h2 : i < s.data.size := h
  show s.data[i]! = _
  rw [getElem!_pos s.data i h2]
  simp [li]
/-- What a rune of more bytes goes over. -/
theorem dec_skip (s : ByteArray) (pos : Nat) (h : pos < s.size) (ha : 128 ≤ ((li s)[pos]'(by rw [li_size]; exact h)).toNat) : pos + (Utf8.decode s pos).2 ≤ s.size ∧ ∀ k, k < (Utf8.decode s pos).2 → 128 ≤ (s.get! (pos + k)).toNat := by
  have h0 : 128 ≤ (s.get! (pos + 0)).toNat := by rw [Nat.add_zero, getb s pos h]; exact ha
  have one : ∀ k, k < 1 → 128 ≤ (s.get! (pos + k)).toNat := fun k hk => by
    obtain rfl : k = 0 := by omega
    exact h0
  have hn : ¬ (s.get! (pos + 0)).toNat < 128 := by omega
  simp only [Utf8.decode, hn, if_false]
  split
  · rename_i hc
    simp only [Bool.and_eq_true, decide_eq_true_eq, beq_iff_eq] at hc
    split
    · exact ⟨by omega, fun k hk => by
        match k, hk with
        | 0, _ => exact h0
        | 1, _ => omega⟩
    · exact ⟨by omega, one⟩
  · split
    · rename_i hc
      simp only [Bool.and_eq_true, decide_eq_true_eq, beq_iff_eq] at hc
      split
      · exact ⟨by omega, fun k hk => by
          match k, hk with
          | 0, _ => exact h0
          | 1, _ => omega
          | 2, _ => omega⟩
      · exact ⟨by omega, one⟩
    · split
      · rename_i hc
        simp only [Bool.and_eq_true, decide_eq_true_eq, beq_iff_eq] at hc
        split
        · exact ⟨by omega, fun k hk => by
            match k, hk with
            | 0, _ => exact h0
            | 1, _ => omega
            | 2, _ => omega
            | 3, _ => omega⟩
        · exact ⟨by omega, one⟩
      · exact ⟨by omega, one⟩
/-- The bytes that are looked for. -/
abbrev two58 : List UInt8 := [46, 58]
theorem ia_cons (b : UInt8) (l cs : List UInt8) : Lib.indexAny (b :: l) cs ≥ 0 ↔ cs.contains b = true ∨ Lib.indexAny l cs ≥ 0 := by
  have e : Lib.indexAny (b :: l) cs = if cs.contains b then 0 else if Lib.indexAny l cs == -1 then -1 else Lib.indexAny l cs + 1 := rfl
  have hge := Lib.indexAny_ge cs l
  rw [e]
  cases cs.contains b with
  | true => simp
  | false =>
    simp only [Bool.false_eq_true, if_false, false_or]
    split
    · rename_i he
      rw [beq_iff_eq] at he
      rw [he]
    · rename_i he
      have : Lib.indexAny l cs ≠ -1 := fun e => he (by rw [e]; rfl)
      omega
theorem ia_skip : ∀ (w : Nat) (l : List UInt8), w ≤ l.length → (∀ k (h : k < l.length), k < w → 128 ≤ (l[k]).toNat) → (Lib.indexAny l two58 ≥ 0 ↔ Lib.indexAny (l.drop w) two58 ≥ 0)
  | 0, l, _, _ => by rw [List.drop_zero]
  | w + 1, [], h, _ => by simp at h
  | w + 1, b :: l, h, hk => by
    have h0 : 128 ≤ b.toNat := hk 0 (by simp) (by omega)
    have hb : two58.contains b = false := by
      cases hc : two58.contains b with
      | false => rfl
      | true =>
        rw [List.contains_iff_mem] at hc
        rcases List.mem_cons.1 hc with rfl | hc
        · exact absurd h0 (by decide)
        · rw [List.mem_singleton.1 hc] at h0; exact absurd h0 (by decide)
    have ih := ia_skip w l (by simpa using h) fun k hl hw => hk (k + 1) (by simpa using hl) (by omega)
    rw [List.drop_succ_cons, ← ih, ia_cons, hb]
    simp
theorem irS_low (b : UInt8) (h : b.toNat < 128) : (irS (b.toNat : Int) ≥ 0) ↔ two58.contains b = true := by
  have : ∀ n : Fin 128, (irS (n.val : Int) ≥ 0) ↔ two58.contains (UInt8.ofNat n.val) = true := by decide
  have := this ⟨b.toNat, h⟩
  simpa using this
theorem irS_high (r : Nat) (h : 128 ≤ r) : ¬ irS (r : Int) ≥ 0 := by
  unfold irS
  have h1 : ((r : Int) == 46) = false := by simp; omega
  have h2 : ((r : Int) == 58) = false := by simp; omega
  rw [h1, h2]
  simp
theorem ia_law (s : ByteArray) : ∀ (d pos : Nat), s.size < pos + d → (iaFrom s d pos ≥ 0 ↔ Lib.indexAny ((li s).drop pos) two58 ≥ 0)
  | 0, pos, h => by
    rw [List.drop_of_length_le (by rw [li_size]; omega)]
    simp [iaFrom, Lib.indexAny]
  | d + 1, pos, h => by
    unfold iaFrom
    by_cases hp : pos < s.size
    · have hl : pos < (li s).length := by rw [li_size]; exact hp
      rw [decide_eq_true hp, cond_true]
      have hdp := dec_pos s pos hp
      have ih := ia_law s d (pos + (Utf8.decode s pos).2) (by omega)
      by_cases hb : ((li s)[pos]).toNat < 128
      · have he : Utf8.decode s pos = (((li s)[pos]).toNat, 1) := decode_ascii s pos hp hb
        rw [he] at ih ⊢
        simp only at ih ⊢
        rw [List.drop_eq_getElem_cons hl]
        have hlow := irS_low _ hb
        rw [ia_cons]
        cases hc : two58.contains ((li s)[pos]) with
        | true =>
          rw [decide_eq_true (hlow.2 hc), cond_true]
          simp
        | false =>
          rw [decide_eq_false (fun hh => by rw [hlow.1 hh] at hc; cases hc), cond_false, ih]
          simp
      · have hh := (decode_high s pos hp (by show 128 ≤ ((li s)[pos]).toNat; omega)).1
        rw [decide_eq_false (irS_high _ hh), cond_false, ih, ← List.drop_drop]
        have hsk := dec_skip s pos hp (by omega)
        refine (ia_skip _ _ (by rw [List.length_drop, li_size]; omega) fun k hk hw => ?_).symm
        have := hsk.2 k hw
        rw [getb s (pos + k) (by omega)] at this
        simpa [List.getElem_drop] using this
    · rw [decide_eq_false hp, cond_false, List.drop_of_length_le (by rw [li_size]; omega)]
      simp [Lib.indexAny]
end Go.Proofs.YtofcjkbgieenlaaDoor.PM

namespace Go.Proofs.YtofcjkbgieenlaaDoor.PM
open Go Go.Proofs Go.RowKit
set_option maxRecDepth 100000
set_option linter.unusedVariables false
set_option linter.unusedSimpArgs false

def iaV (s : ByteArray) : Int := bif decide (s.size ≤ 8) then (bif decide (iaFrom s 9 0 ≥ 0) then iaFrom s 9 0 else -1) else Lib.indexAny s.data.toList dots.data.toList
def hasDot (s : ByteArray) : Bool := decide (Lib.indexAny (li s) two58 ≥ 0)
theorem iaV_dot (s : ByteArray) : decide (iaV s ≥ 0) = hasDot s := by
  unfold iaV hasDot
  by_cases h : s.size ≤ 8
  · rw [decide_eq_true h, cond_true]
    have := ia_law s 9 0 (by omega)
    rw [List.drop_zero] at this
    rw [← decide_eq_decide.2 this]
    by_cases h2 : iaFrom s 9 0 ≥ 0
    · rw [decide_eq_true h2, cond_true, decide_eq_true h2]
    · rw [decide_eq_false h2, cond_false]; rfl
  · rw [decide_eq_false h, cond_false]
def iaG' : Pure
  | [.string s, .string t] => some (t = dots ∧ s.size < 2 ^ 31, .int .i64 (iaV s))
  | _ => none
theorem zero82 : (∀ w, (zeroValue 82).run Tryd.prog w = .ok (.agg (Array.replicate 256 (.bool false))) w) ∧ (Tryd.prog.info? 82).map (·.size) = some 256 := Go.zero_of_info (P := Tryd.prog) (t := 82) (v := .agg (Array.replicate 256 (.bool false))) (n := 256) (by kernel_rfl)
theorem ia_ok' : PureOk Tryd.prog 61 iaG' where
  enter := ia_ok.enter
  args args c r hg := by
    unfold iaG' at hg
    split at hg
    · cases hg; rfl
    · cases hg
  meets args c r hg hcc := by
    unfold iaG' at hg
    split at hg
    · rename_i s t
      cases hg
      obtain ⟨rfl, hs⟩ := hcc
      by_cases h : s.size ≤ 8
      · have := ia_ok.meets [.string s, .string dots] _ _ rfl ⟨rfl, h⟩
        unfold iaV
        rw [decide_eq_true h, cond_true]
        exact this
      · refine ⟨rfl, .of_calls rfl rfl fun w => ?_⟩
        have := Tryd.strings_IndexAny_long zero82.1 s dots w (by show 2 ≤ 2; omega) (by omega) (by omega) (by show 2 < _; omega) (fun j b hj => by
          match j, hj with
          | 0, hj => cases hj; decide
          | 1, hj => cases hj; decide
          | n + 2, hj => cases hj)
        unfold iaV
        rw [decide_eq_false h, cond_false]
        refine this.mono fun e w' k => ⟨k.1, ?_⟩
        rw [k.2]
        exact ((Below.refl _ w).alloc (Nat.le_refl _) _).alloc (by simp) _
    · cases hg
theorem hasAny_ok : PureOk Tryd.prog 46 (two (fun s t => t = dots ∧ s.size < 2 ^ 31) fun s t => .bool (hasDot s)) := by
  refine .of_run (call := callOf [(61, pureS iaG')]) (hint := hints 46) (tb := noTab) hm (callOf_cons ia_ok'.spec callOf_nil) Tryd.func46 (by kernel_rfl) rfl (by kernel_rfl) (by repeat' first | exact trivial | constructor |  (intro _ h; cases h)) fun args c r h => ?_
  unfold two at h
  split at h
  · rename_i s t
    cases h
    refine ⟨rfl, fun hs => ⟨rfl, 1, fun K hK => ?_⟩⟩
    have hK : K (.bool (hasDot s)) [] := hK []
    rw [← iaV_dot] at hK
    refine to (R := ((t = dots) ∧ (s.size < 2147483648)) ∧ (K (.bool (decide ((iaV s) ≥ (0 : Int)))) [])) (by kernel_rfl) ?_
    exact ⟨hs, hK⟩
  · cases h
def toldS (s : ByteArray) : Bool := hasDot s || isS s [108, 111, 99, 97, 108, 104, 111, 115, 116]
def toldG : Pure
  | [.string s] => some (s.size < 2 ^ 31, .bool (toldS s))
  | _ => none
theorem told_ok : PureOk Tryd.prog 30 toldG := by
  refine .of_run (call := callOf [(46, pureS (two (fun s t => t = dots ∧ s.size < 2 ^ 31) fun s t => .bool (hasDot s)))]) (hint := hints 30) (tb := noTab) hm (callOf_cons hasAny_ok.spec callOf_nil) Tryd.func30 (by kernel_rfl) rfl (by kernel_rfl) (by repeat' first | exact trivial | constructor |  (intro _ h; cases h)) fun args c r h => ?_
  unfold toldG at h
  split at h
  · rename_i s
    cases h
    refine ⟨rfl, fun hs => ⟨rfl, 1, fun K hK => ?_⟩⟩
    simp only [toldS, isS] at hK
    refine to (R := (((ByteArray.mk #[46, 58]) = dots) ∧ (s.size < 2147483648)) ∧ (bcase (hasDot s) (K (.bool true) []) (K (.bool (s.toList == (ByteArray.mk #[108, 111, 99, 97, 108, 104, 111, 115, 116]).toList)) []))) (by kernel_rfl) ?_
    refine ⟨⟨rfl, hs⟩, ?_⟩
    repeat' first | with_reducible exact trivial | with_reducible refine need_of (by first | first | with_reducible assumption | (simp only [List.length_cons, List.length_nil, Nat.zero_add, Nat.zero_lt_succ, decide_true, Bool.and_true, Bool.and_self]; done) | with_reducible exact pos_of (by assumption) | with_reducible exact pos_of' (by assumption) | omega | (simp only [ByteArray.size_append, sz1, decide_eq_true_eq, *]; omega) | decide | (simp only [Bool.and_true, Bool.and_eq_true, decide_eq_true_eq, ByteArray.size_extract, ByteArray.size_append, sz1, Int.toNat_natCast, List.getD_eq_getElem?_getD, beq_iff_eq, decide_eq_false_iff_not] at *; omega) | ((repeat' constructor) <;> first | rfl | first | with_reducible assumption | (simp only [List.length_cons, List.length_nil, Nat.zero_add, Nat.zero_lt_succ, decide_true, Bool.and_true, Bool.and_self]; done) | with_reducible exact pos_of (by assumption) | with_reducible exact pos_of' (by assumption) | omega | (simp only [ByteArray.size_append, sz1, decide_eq_true_eq, *]; omega) | decide | (simp only [Bool.and_true, Bool.and_eq_true, decide_eq_true_eq, ByteArray.size_extract, ByteArray.size_append, sz1, Int.toNat_natCast, List.getD_eq_getElem?_getD, beq_iff_eq, decide_eq_false_iff_not] at *; omega))) ?_ | with_reducible refine And.intro (by first | first | with_reducible assumption | (simp only [List.length_cons, List.length_nil, Nat.zero_add, Nat.zero_lt_succ, decide_true, Bool.and_true, Bool.and_self]; done) | with_reducible exact pos_of (by assumption) | with_reducible exact pos_of' (by assumption) | omega | (simp only [ByteArray.size_append, sz1, decide_eq_true_eq, *]; omega) | decide | (simp only [Bool.and_true, Bool.and_eq_true, decide_eq_true_eq, ByteArray.size_extract, ByteArray.size_append, sz1, Int.toNat_natCast, List.getD_eq_getElem?_getD, beq_iff_eq, decide_eq_false_iff_not] at *; omega) | ((repeat' constructor) <;> first | rfl | first | with_reducible assumption | (simp only [List.length_cons, List.length_nil, Nat.zero_add, Nat.zero_lt_succ, decide_true, Bool.and_true, Bool.and_self]; done) | with_reducible exact pos_of (by assumption) | with_reducible exact pos_of' (by assumption) | omega | (simp only [ByteArray.size_append, sz1, decide_eq_true_eq, *]; omega) | decide | (simp only [Bool.and_true, Bool.and_eq_true, decide_eq_true_eq, ByteArray.size_extract, ByteArray.size_append, sz1, Int.toNat_natCast, List.getD_eq_getElem?_getD, beq_iff_eq, decide_eq_false_iff_not] at *; omega))) ?_ | with_reducible refine bcase_not ?_ | with_reducible refine bcase_t rfl ?_ | with_reducible refine bcase_f rfl ?_ | with_reducible refine bcase_t (by assumption) ?_ | with_reducible refine bcase_f (by assumption) ?_ | (with_reducible refine bcase_of (fun hx => ?_) (fun hx => ?_) <;> try simp only [hx, bcase_tt, bcase_ff, Int.toNat_natCast, Bool.not_true, Bool.not_false, cond_true, cond_false, Bool.and_true, Bool.and_false, Bool.true_and, Bool.false_and, Bool.or_true, Bool.or_false, Bool.true_or, Bool.false_or] at hK)
    all_goals exact hK []
  · cases h
abbrev digits10 : ByteArray := (ByteArray.mk #[48, 49, 50, 51, 52, 53, 54, 55, 56, 57])
def trimG : Pure := two (fun s t => t = digits10 ∧ 0 < s.size ∧ s.size < 2 ^ 31) fun s t => .string ⟨(Lib.trimS s.data.toList t.data.toList).toArray⟩
theorem trim_ok : PureOk Tryd.prog 62 trimG :=
  .of_shelf Tryd.func62 (by kernel_rfl) rfl fun args c r hg => by
    unfold trimG two at hg
    split at hg
    · rename_i s t
      cases hg
      refine ⟨rfl, fun hcc => ⟨rfl, fun w => ?_⟩⟩
      obtain ⟨rfl, h0, hs⟩ : t = digits10 ∧ 0 < s.size ∧ s.size < 2 ^ 31 := hcc
      have := Any.strings_Trim_set Tryd.lays160 zero82.1 zero82.2 s digits10 w (by show 2 ≤ 10; omega) h0 (by omega) (by show 10 < _; omega) (fun j b hj => by
        have : ∀ b ∈ digits10.data.toList, b.toNat < 128 := by decide
        exact this b (List.mem_of_getElem? hj))
      refine this.mono fun e w' k => ⟨k.1, ?_⟩
      obtain ⟨q, hq⟩ := k.2
      rw [hq]
      exact (((Below.refl _ w).alloc (Nat.le_refl _) _).alloc (by simp) _).trans ⟨rfl, rfl, rfl, Nat.le_refl _, fun _ _ => rfl⟩
    · cases hg
def portS (s : ByteArray) : Bool := decide ((s.size : Int) ≥ 1) && (decide ((s.size : Int) ≤ 5) && isS ⟨(Lib.trimS s.data.toList digits10.data.toList).toArray⟩ [])
def portG : Pure
  | [.string s] => some (s.size < 2 ^ 31, .bool (portS s))
  | _ => none
theorem port_ok : PureOk Tryd.prog 47 portG := by
  refine .of_run (call := callOf [(62, pureS trimG)]) (hint := hints 47) (tb := noTab) hm (callOf_cons trim_ok.spec callOf_nil) Tryd.func47 (by kernel_rfl) rfl (by kernel_rfl) (by repeat' first | exact trivial | constructor |  (intro _ h; cases h)) fun args c r h => ?_
  unfold portG at h
  split at h
  · rename_i s
    cases h
    refine ⟨rfl, fun hs => ⟨rfl, 1, fun K hK => ?_⟩⟩
    simp only [portS, isS] at hK
    refine to (R := bcase (decide ((↑s.size : Int) ≥ (1 : Int))) (bcase (decide ((↑s.size : Int) ≤ (5 : Int))) ((((ByteArray.mk #[48, 49, 50, 51, 52, 53, 54, 55, 56, 57]) = digits10) ∧ ((0 < s.size) ∧ (s.size < 2147483648))) ∧ (K (.bool ((ByteArray.mk (Lib.trimS s.data.toList (ByteArray.mk #[48, 49, 50, 51, 52, 53, 54, 55, 56, 57]).data.toList).toArray).toList == (ByteArray.mk #[]).toList)) [])) (K (.bool false) [])) (K (.bool false) [])) (by kernel_rfl) ?_
    refine bcase_of (fun h1 => bcase_of (fun h2 => ⟨⟨rfl, by have := of_decide_eq_true h1; omega, hs⟩, ?_⟩) (fun h2 => ?_)) (fun h1 => ?_)
    · try simp only [h1, h2, bcase_tt, bcase_ff, Int.toNat_natCast, Bool.not_true, Bool.not_false, cond_true, cond_false, Bool.and_true, Bool.and_false, Bool.true_and, Bool.false_and, Bool.or_true, Bool.or_false, Bool.true_or, Bool.false_or] at hK
      exact hK []
    · try simp only [h1, h2, bcase_tt, bcase_ff, Int.toNat_natCast, Bool.not_true, Bool.not_false, cond_true, cond_false, Bool.and_true, Bool.and_false, Bool.true_and, Bool.false_and, Bool.or_true, Bool.or_false, Bool.true_or, Bool.false_or] at hK
      exact hK []
    · try simp only [h1, bcase_tt, bcase_ff, Int.toNat_natCast, Bool.not_true, Bool.not_false, cond_true, cond_false, Bool.and_true, Bool.and_false, Bool.true_and, Bool.false_and, Bool.or_true, Bool.or_false, Bool.true_or, Bool.false_or] at hK
      exact hK []
  · cases h
def splitD (s : ByteArray) : ByteArray := bif cutF s 47 && toldS (cutA s 47) then cutA s 47 else ⟨#[]⟩
def splitR (s : ByteArray) : ByteArray := bif cutF s 47 && toldS (cutA s 47) then cutZ s 47 else s
def splitG : Pure
  | [.string s] => some (s.size < 2 ^ 31, .tuple ⟨[.string (splitD s), .string (splitR s)]⟩)
  | _ => none
theorem cutA_size (s : ByteArray) (c : UInt8) : (cutA s c).size ≤ s.size := by
  unfold cutA
  cases cutF s c
  · exact Nat.le_refl _
  · show (s.extract _ _).size ≤ _
    rw [ByteArray.size_extract]
    omega
attribute [irreducible] toldS
theorem split_ok : PureOk Tryd.prog 22 splitG := by
  refine .of_run (call := callOf [(18, pureS cutG2), (30, pureS toldG)]) (hint := hints 22) (tb := noTab) hm (callOf_cons cut_ok'.spec (callOf_cons told_ok.spec callOf_nil)) Tryd.func22 (by kernel_rfl) rfl (by kernel_rfl) (by repeat' first | exact trivial | constructor |  (intro _ h; cases h)) fun args c r h => ?_
  unfold splitG at h
  split at h
  · rename_i s
    cases h
    refine ⟨rfl, fun hs => ⟨rfl, 1, fun K hK => ?_⟩⟩
    have ho : oneB (ByteArray.mk #[47]) = 47 := rfl
    have hsz := cutA_size s 47
    simp only [splitD, splitR] at hK
    refine to (R := ((∃ (c : UInt8), ((ByteArray.mk #[47]) = (ByteArray.mk #[c]))) ∧ (s.size < 1099511627776)) ∧ (bcase (cutF s (oneB (ByteArray.mk #[47]))) (((cutA s (oneB (ByteArray.mk #[47]))).size < 2147483648) ∧ (bcase (toldS (cutA s (oneB (ByteArray.mk #[47])))) (K (.tuple (Array.mk [(.string (cutA s (oneB (ByteArray.mk #[47])))), (.string (cutZ s (oneB (ByteArray.mk #[47]))))])) []) (K (.tuple (Array.mk [(.string (ByteArray.mk #[])), (.string s)])) []))) (K (.tuple (Array.mk [(.string (ByteArray.mk #[])), (.string s)])) []))) (by kernel_rfl) ?_
    simp only [ho]
    refine ⟨⟨⟨47, rfl⟩, by omega⟩, ?_⟩
    repeat' first | with_reducible exact trivial | with_reducible refine need_of (by first | first | with_reducible assumption | (simp only [List.length_cons, List.length_nil, Nat.zero_add, Nat.zero_lt_succ, decide_true, Bool.and_true, Bool.and_self]; done) | with_reducible exact pos_of (by assumption) | with_reducible exact pos_of' (by assumption) | omega | (simp only [ByteArray.size_append, sz1, decide_eq_true_eq, *]; omega) | decide | (simp only [Bool.and_true, Bool.and_eq_true, decide_eq_true_eq, ByteArray.size_extract, ByteArray.size_append, sz1, Int.toNat_natCast, List.getD_eq_getElem?_getD, beq_iff_eq, decide_eq_false_iff_not] at *; omega) | ((repeat' constructor) <;> first | rfl | first | with_reducible assumption | (simp only [List.length_cons, List.length_nil, Nat.zero_add, Nat.zero_lt_succ, decide_true, Bool.and_true, Bool.and_self]; done) | with_reducible exact pos_of (by assumption) | with_reducible exact pos_of' (by assumption) | omega | (simp only [ByteArray.size_append, sz1, decide_eq_true_eq, *]; omega) | decide | (simp only [Bool.and_true, Bool.and_eq_true, decide_eq_true_eq, ByteArray.size_extract, ByteArray.size_append, sz1, Int.toNat_natCast, List.getD_eq_getElem?_getD, beq_iff_eq, decide_eq_false_iff_not] at *; omega))) ?_ | with_reducible refine And.intro (by first | first | with_reducible assumption | (simp only [List.length_cons, List.length_nil, Nat.zero_add, Nat.zero_lt_succ, decide_true, Bool.and_true, Bool.and_self]; done) | with_reducible exact pos_of (by assumption) | with_reducible exact pos_of' (by assumption) | omega | (simp only [ByteArray.size_append, sz1, decide_eq_true_eq, *]; omega) | decide | (simp only [Bool.and_true, Bool.and_eq_true, decide_eq_true_eq, ByteArray.size_extract, ByteArray.size_append, sz1, Int.toNat_natCast, List.getD_eq_getElem?_getD, beq_iff_eq, decide_eq_false_iff_not] at *; omega) | ((repeat' constructor) <;> first | rfl | first | with_reducible assumption | (simp only [List.length_cons, List.length_nil, Nat.zero_add, Nat.zero_lt_succ, decide_true, Bool.and_true, Bool.and_self]; done) | with_reducible exact pos_of (by assumption) | with_reducible exact pos_of' (by assumption) | omega | (simp only [ByteArray.size_append, sz1, decide_eq_true_eq, *]; omega) | decide | (simp only [Bool.and_true, Bool.and_eq_true, decide_eq_true_eq, ByteArray.size_extract, ByteArray.size_append, sz1, Int.toNat_natCast, List.getD_eq_getElem?_getD, beq_iff_eq, decide_eq_false_iff_not] at *; omega))) ?_ | with_reducible refine bcase_not ?_ | with_reducible refine bcase_t rfl ?_ | with_reducible refine bcase_f rfl ?_ | with_reducible refine bcase_t (by assumption) ?_ | with_reducible refine bcase_f (by assumption) ?_ | (with_reducible refine bcase_of (fun hx => ?_) (fun hx => ?_) <;> try simp only [hx, bcase_tt, bcase_ff, Int.toNat_natCast, Bool.not_true, Bool.not_false, cond_true, cond_false, Bool.and_true, Bool.and_false, Bool.true_and, Bool.false_and, Bool.or_true, Bool.or_false, Bool.true_or, Bool.false_or] at hK)
    all_goals exact hK []
  · cases h
end Go.Proofs.YtofcjkbgieenlaaDoor.PM

set_option linter.unusedVariables false
set_option linter.unusedSimpArgs false
namespace Go.Proofs.YtofcjkbgieenlaaDoor.PM
open Go Go.Proofs Go.RowKit Go.Shelf Go.Proofs.YtofcjkbgieenlaaDoor.Hand
attribute [local go_sem] Oper.semAt_some

theorem closedL_self : ∀ {l : List Value}, closedL l = true → VRs [] l l
  | [], _ => .nil
  | v :: l, h => by
    simp only [closedL, Bool.and_eq_true] at h
    refine .cons ?_ (closedL_self h.2)
    have one : ∀ u, closed1 u = true → VR [] u u := fun u hu => by
      unfold closed1 at hu
      split at hu
      · exact .agg (VRs.plain hu)
      · exact .func .nil .nil
      · exact VR.plain hu
    have all : ∀ l : List Value, closedL1 l = true → VRs [] l l := by
      intro l
      induction l with
      | nil => intro _; exact .nil
      | cons u l ih =>
        intro hl
        simp only [closedL1, Bool.and_eq_true] at hl
        exact .cons (one u hl.1) (ih hl.2)
    have hv := h.1
    unfold closedV at hv
    split at hv
    · exact .tuple (all _ hv)
    · exact one _ hv
/-- A proved function, as the kit has it. -/
theorem PureOk.calls {P : Program} {f : FuncId} {g : Pure} (h : PureOk P f g) {args : List Value} {c : Prop} {r : Value} (hg : g args = some (c, r)) (hc : c) (w : World) :
    Calls P f ⟨args⟩ w fun e w' => e = .returned r ∧ Below w.heap.size w w' := by
  obtain ⟨h1, h2⟩ := h.meets args c r hg hc
  have ha := h.args args c r hg
  have hv : VRs [] args args := closedL_self ha
  refine (h2 [] w args (HR.empty w) hv).mono ?_
  rintro e w' ⟨r', r'', μ', H', rfl, k1, _, _, _, _, _, k7, rfl⟩
  obtain ⟨rfl, _⟩ := closedV_same (ν := μ') h1 k1
  exact ⟨rfl, k7⟩

theorem boxed_step {k t B m : Nat} {v : Value} {A A' : World} (h : Boxed A k t v) (hb : BoxStep B m A A') (hk : k < B) : Boxed A' k t v := (hb.others k (by omega)).trans h
theorem below_step {n0 B m : Nat} {w A A' : World} (h : Below n0 w A) (hb : BoxStep B m A A') (hk : n0 ≤ B) : Below n0 w A' :=
  ⟨hb.os.trans h.os, hb.tape.trans h.tape, hb.output.trans h.output, by rw [hb.size]; exact h.size, fun k hlt => (hb.others k (by omega)).trans (h.block k hlt)⟩
theorem boxed_keep {B t : Nat} {v : Value} {A A' : World} {row : Option Nat} (h : Boxed A B t v) (hg : A.grownBy A' row) (hr : ∀ r, row = some r → ∃ o : Obj, A.heap[r]? = some o ∧ o.isCells = false) : Boxed A' B t v :=
  h.kept hg fun e => by
    obtain ⟨o, ho, hc⟩ := hr B e.symm
    rw [show A.heap[B]? = _ from h] at ho; cases ho; cases hc
theorem boxed_later {W W' : World} {k t : Nat} {v : Value} (h : Boxed W k t v) (hb : Below W.heap.size W W') : Boxed W' k t v := (hb.block _ h.lt).trans h
theorem keeps_below {S : Nat} {W W' : World} (h : Below W.heap.size W W') : KeepsFrom S W W' := (KeepsOthers.mk h.size fun k o hk ho => by
  rw [h.block k (Array.getElem?_eq_some_iff.1 hk).1]; exact hk).from S
theorem boxkept_below {B m : Nat} {W W' : World} (h : Below W.heap.size W W') (hB : B + m ≤ W.heap.size) : BoxKept B m W W' := fun k _ h2 => h.block k (by omega)

/-- Between two rounds, and behind a return. -/
def AllInv (f : ByteArray → Bool) (w : World) (pre : List ByteArray) (W : World) : Prop :=
  Boxed W w.heap.size 4 (.bool false) ∧ (∀ x ∈ pre, f x = true) ∧ Below w.heap.size w W ∧ w.heap.size + 4 ≤ W.heap.size
def AllOut (f : ByteArray → Bool) (w : World) (c : Code) (pre : List ByteArray) (W : World) : Prop :=
  c = .ret ∧ Boxed W w.heap.size 4 (.bool false) ∧ (∃ x ∈ pre, f x = false) ∧ Below w.heap.size w W
theorem AllInv.ownFrom (f : ByteArray → Bool) (w : World) (B : Nat) (hB : w.heap.size ≤ B) : OwnFrom B (AllInv f w) := by
  rintro pre A A' row ⟨h1, h2, hb, hz⟩ hg hr
  have hr' : ∀ r, row = some r → ∃ o : Obj, A.heap[r]? = some o ∧ o.isCells = false := fun r e => (hr r e).2
  exact ⟨boxed_keep h1 hg hr', h2, hb.grown hg hb.size (fun k e => by have := (hr k e).1; omega), Nat.le_trans hz hg.size⟩
theorem AllOut.ownFrom (f : ByteArray → Bool) (w : World) (B : Nat) (hB : w.heap.size ≤ B) (c : Code) : OwnFrom B (AllOut f w c) := by
  rintro pre A A' row ⟨h1, h2, h3, hb⟩ hg hr
  have hr' : ∀ r, row = some r → ∃ o : Obj, A.heap[r]? = some o ∧ o.isCells = false := fun r e => (hr r e).2
  exact ⟨h1, boxed_keep h2 hg hr', h3, hb.grown hg hb.size (fun k e => by have := (hr k e).1; omega)⟩
theorem AllInv.step {f : ByteArray → Bool} {w A A' : World} {pre : List ByteArray} (h : AllInv f w pre A) (hb : BoxStep (w.heap.size + 1) 3 A A') : AllInv f w pre A' :=
  ⟨boxed_step h.1 hb (by omega), h.2.1, below_step h.2.2.1 hb (by omega), by rw [hb.size]; exact h.2.2.2⟩
theorem AllOut.step {f : ByteArray → Bool} {w A A' : World} {c : Code} {pre : List ByteArray} (h : AllOut f w c pre A) (hb : BoxStep (w.heap.size + 1) 3 A A') : AllOut f w c pre A' :=
  ⟨h.1, boxed_step h.2.1 hb (by omega), h.2.2.1, below_step h.2.2.2 hb (by omega)⟩
def pathPS (s : ByteArray) : Bool := (splitS 47 s).all partPS
set_option maxHeartbeats 4000000 in
set_option maxRecDepth 100000 in
theorem path_in (p : ByteArray) (hp : p.size ≤ 1000000) (w : World) :
    CallsIn Fence.wide 5 Tryd.prog 32 #[.string p] w fun e w' => e = .returned (.bool (pathPS p)) ∧ Below w.heap.size w w' := by
  refine callsIn_of_wp_marks Tryd.func32 rfl trivial ?_ rfl
  simp only [Tryd.ntmps32, List.size_toArray, List.length_cons, List.length_nil, Nat.reduceAdd, Nat.reduceSub, Array.replicate_succ, Array.replicate_zero, List.push_toArray, List.append_toArray, List.nil_append, List.cons_append]
  gi_wp2_with (refine ⟨trivial, ?_⟩; (with_reducible refine (callsIn_wide.2 (SplitSeq_calls p ⟨#[47]⟩ _)).mono ?_); rintro e w' ⟨rfl, rfl⟩)
  have b0 := (((Boxed.new w 4 (.bool false)).alloc (.cells #[.string p] 9)).alloc (.cells #[.string ⟨#[47]⟩] 9)).alloc (.cells #[.int .i64 0] 3)
  have b3 := ((Boxed.new (w.alloc (.cells #[.bool false] 4)) 9 (.string p)).alloc (.cells #[.string ⟨#[47]⟩] 9)).alloc (.cells #[.int .i64 0] 3)
  have b4 := (Boxed.new ((w.alloc (.cells #[.bool false] 4)).alloc (.cells #[.string p] 9)) 9 (.string ⟨#[47]⟩)).alloc (.cells #[.int .i64 0] 3)
  have b5 := Boxed.new (((w.alloc (.cells #[.bool false] 4)).alloc (.cells #[.string p] 9)).alloc (.cells #[.string ⟨#[47]⟩] 9)) 3 (.int .i64 0)
  have hB : Below w.heap.size w ((((w.alloc (.cells #[.bool false] 4)).alloc (.cells #[.string p] 9)).alloc (.cells #[.string ⟨#[47]⟩] 9)).alloc (.cells #[.int .i64 0] 3)) :=
    ((((Below.refl _ w).alloc (Nat.le_refl _) _).alloc (by simp) _).alloc (by simp; omega) _).alloc (by simp; omega) _
  generalize hW : (((w.alloc (.cells #[.bool false] 4)).alloc (.cells #[.string p] 9)).alloc (.cells #[.string ⟨#[47]⟩] 9)).alloc (.cells #[.int .i64 0] 3) = W6 at b0 b3 b4 b5 hB ⊢
  have hsz : W6.heap.size = w.heap.size + 4 := by rw [← hW]; simp
  clear hW
  simp only [World.size_alloc, Nat.add_assoc, Nat.reduceAdd] at b0 b3 b4 b5 ⊢
  refine wpIn_rangeFunc_box rfl (by omega) (gf := 79) (lb := #[.pointer (some ⟨w.heap.size + 2, 0, none⟩), .pointer (some ⟨w.heap.size + 1, 0, none⟩), .pointer (some ⟨w.heap.size + 3, 0, none⟩)]) rfl trivial (enters_of Tryd.func79 (by kernel_rfl) rfl)
    (splitSeq1_seq 4 (w.heap.size + 1) (by omega) 47 p (by omega) W6 ⟨b3, b4, b5⟩) (by omega) (fun _ => rfl)
    (AllInv partPS w) (AllOut partPS w) (AllInv.ownFrom _ w _ (by omega)) (AllOut.ownFrom _ w _ (by omega)) (fun _ _ _ h hb => h.step hb) (fun _ _ _ _ h hb => h.step hb)
    ⟨b0, fun _ h => absurd h List.not_mem_nil, hB, by omega⟩
    (fun x => { tmps := #[Value.string p, undef, Value.pointer (some { block := w.heap.size, off := 0 }), .string x, Value.string p,
      Value.func (Fn.func 79) #[] #[Value.pointer (some { block := w.heap.size + 2, off := 0 }), Value.pointer (some { block := w.heap.size + 1, off := 0 }), Value.pointer (some { block := w.heap.size + 3, off := 0 })],
      .string x, undef, undef, undef], defers := [] }) ?assign ?body ?done ?stop
  case assign =>
    intro l x W K hK
    gi_wp2
    exact hK
  case body =>
    rintro l pre x W ⟨h1, h2, hb, hz⟩ hpx
    have hxs : x.size < 2 ^ 60 := by
      have hm : x ∈ splitS 47 p := hpx.subset (by simp)
      obtain ⟨q, hq, rfl⟩ := List.mem_map.1 hm
      have := splitB_mem_length 47 _ q hq
      rw [bs_size]
      have : p.data.toList.length = p.size := Array.length_toList ..
      omega
    have hcall := fun W => partP_ok.calls (args := [.string x]) rfl hxs W
    have Hcall := Lib.hid hcall
    clear hcall hxs
    cases hx : partPS x with
    | true =>
      rw [hx] at Hcall
      gi_wp2_with (refine ⟨trivial, ?_⟩; (with_reducible refine (CallsIn.inRound l (callsIn_wide.2 (Hcall.out _))).mono ?_); rintro e w' ⟨rfl, hbb⟩)
      exact ⟨keeps_below hbb, boxkept_below hbb (by omega), (hbb.block _ h1.lt).trans h1, fun y hy => by
        rcases List.mem_append.1 hy with hy | hy
        · exact h2 y hy
        · rw [List.mem_singleton.1 hy]; exact hx, hb.trans (hbb.mono hb.size), by have := hbb.size; omega⟩
    | false =>
      rw [hx] at Hcall
      gi_wp2_with (refine ⟨trivial, ?_⟩; (with_reducible refine (CallsIn.inRound l (callsIn_wide.2 (Hcall.out _))).mono ?_); rintro e w' ⟨rfl, hbb⟩; have h1' := boxed_later h1 hbb; have c0 := h1'.cell; have f0 := h1'.frozen)
      exact ⟨(keeps_below hbb).trans ((KeepsOthers.setCell _ _ _).from _), rfl, h1'.set _, ⟨x, by simp, hx⟩, (hb.trans (hbb.mono hb.size)).setCell (p := ⟨w.heap.size, 0, none⟩) (Nat.le_refl _) _⟩
  case done =>
    rintro D W hD ⟨h1, h2, hb, hz⟩ hK
    have c0 := h1.cell
    have f0 := h1.frozen
    have hall : pathPS p = true := List.all_eq_true.2 h2
    have Hall := Lib.hid hall
    clear hall
    gi_wp2
    have hK' := (KeepsOthers.setCell W ⟨w.heap.size, 0, none⟩ (.bool true)).same D _ hK rfl
    have u := (h1.set (.bool true))
    refine ⟨by simp, .inl ⟨_, _, rfl, run_takeDeferred hK', ?_⟩⟩
    have r := cell_kept u.cell (grownBy_putObj' _ D (.deferred none)) (fun r e => by cases e; exact ⟨_, hK', rfl⟩)
    refine ⟨.bool true, ?_, by rw [Hall.out], (hb.setCell (p := ⟨w.heap.size, 0, none⟩) (Nat.le_refl _) _).trans (belowK_b (w := w) (Nat.le_refl _) _ D _ _ (by omega) hK' rfl rfl)⟩
    simp [results, Tryd.f32, go_sem, r]
  case stop =>
    rintro D c pre W hD hpre ⟨rfl, h1, ⟨x, hx1, hx2⟩, hb⟩ hK
    gi_wp2
    refine ⟨by simp, .inl ⟨_, _, rfl, run_takeDeferred hK, ?_⟩⟩
    have r := cell_kept h1.cell (grownBy_putObj' _ D (.deferred none)) (fun r e => by cases e; exact ⟨_, hK, rfl⟩)
    have hall : pathPS p = false := by
      cases h : pathPS p with
      | false => rfl
      | true =>
        have := List.all_eq_true.1 h x (hpre.subset hx1)
        rw [hx2] at this
        cases this
    refine ⟨.bool false, ?_, by rw [hall], hb.trans (belowK_b (w := w) (Nat.le_refl _) _ D _ _ (by omega) hK rfl rfl)⟩
    simp [results, Tryd.f32, go_sem, r]
def pathPG : Pure
  | [.string s] => some (s.size ≤ 1000000, .bool (pathPS s))
  | _ => none
theorem ppath_ok : PureOk Tryd.prog 32 pathPG :=
  .of_shelf Tryd.func32 (by kernel_rfl) rfl fun args c r hg => by
    unfold pathPG at hg
    split at hg
    · rename_i s
      cases hg
      exact ⟨rfl, fun hcc => ⟨rfl, fun w => callsIn_wide.1 (path_in s hcc w)⟩⟩
    · cases hg
end Go.Proofs.YtofcjkbgieenlaaDoor.PM

set_option linter.unusedVariables false
set_option linter.unusedSimpArgs false
namespace Go.Proofs.YtofcjkbgieenlaaDoor.PM
open Go Go.Proofs Go.RowKit Go.Shelf Go.Proofs.YtofcjkbgieenlaaDoor.Hand
attribute [local go_sem] Oper.semAt_some

/-- Between two rounds, and behind a return. -/
def AllInv2 (f : ByteArray → Bool) (w : World) (B : Nat) (pre : List ByteArray) (W : World) : Prop :=
  Boxed W w.heap.size 4 (.bool false) ∧ (∀ x ∈ pre, f x = true) ∧ Below w.heap.size w W ∧ w.heap.size < B ∧ B + 3 ≤ W.heap.size
def AllOut2 (f : ByteArray → Bool) (w : World) (B : Nat) (c : Code) (pre : List ByteArray) (W : World) : Prop :=
  c = .ret ∧ Boxed W w.heap.size 4 (.bool false) ∧ (∃ x ∈ pre, f x = false) ∧ Below w.heap.size w W ∧ w.heap.size < B
theorem AllInv2.ownFrom (f : ByteArray → Bool) (w : World) (B D : Nat) (hB : w.heap.size ≤ D) : OwnFrom D (AllInv2 f w B) := by
  rintro pre A A' row ⟨h1, h2, hb, hk, hz⟩ hg hr
  have hr' : ∀ r, row = some r → ∃ o : Obj, A.heap[r]? = some o ∧ o.isCells = false := fun r e => (hr r e).2
  exact ⟨boxed_keep h1 hg hr', h2, hb.grown hg hb.size (fun k e => by have := (hr k e).1; omega), hk, Nat.le_trans hz hg.size⟩
theorem AllOut2.ownFrom (f : ByteArray → Bool) (w : World) (B D : Nat) (hB : w.heap.size ≤ D) (c : Code) : OwnFrom D (AllOut2 f w B c) := by
  rintro pre A A' row ⟨h1, h2, h3, hb, hk⟩ hg hr
  have hr' : ∀ r, row = some r → ∃ o : Obj, A.heap[r]? = some o ∧ o.isCells = false := fun r e => (hr r e).2
  exact ⟨h1, boxed_keep h2 hg hr', h3, hb.grown hg hb.size (fun k e => by have := (hr k e).1; omega), hk⟩
theorem AllInv2.step {f : ByteArray → Bool} {w A A' : World} {B : Nat} {pre : List ByteArray} (h : AllInv2 f w B pre A) (hb : BoxStep B 3 A A') : AllInv2 f w B pre A' :=
  ⟨boxed_step h.1 hb h.2.2.2.1, h.2.1, below_step h.2.2.1 hb (by have := h.2.2.2.1; omega), h.2.2.2.1, by rw [hb.size]; exact h.2.2.2.2⟩
theorem AllOut2.step {f : ByteArray → Bool} {w A A' : World} {B : Nat} {c : Code} {pre : List ByteArray} (h : AllOut2 f w B c pre A) (hb : BoxStep B 3 A A') : AllOut2 f w B c pre A' :=
  ⟨h.1, boxed_step h.2.1 hb h.2.2.2.2, h.2.2.1, below_step h.2.2.2.1 hb (by have := h.2.2.2.2; omega), h.2.2.2.2⟩
def domainPS (s : ByteArray) : Bool := bif cutF s 58 && !portS (cutZ s 58) then false else (splitS 46 (cutA s 58)).all labelB
theorem cutZ_size (s : ByteArray) (c : UInt8) : (cutZ s c).size ≤ s.size := by
  unfold cutZ
  cases cutF s c
  · exact Nat.zero_le _
  · show (s.extract _ _).size ≤ _
    rw [ByteArray.size_extract]
    omega
set_option maxHeartbeats 4000000 in
set_option maxRecDepth 100000 in
theorem domain_in (p : ByteArray) (hp : p.size ≤ 1000000) (w : World) :
    CallsIn Fence.wide 5 Tryd.prog 31 #[.string p] w fun e w' => e = .returned (.bool (domainPS p)) ∧ Below w.heap.size w w' := by
  have hcut : ∀ W, Calls Tryd.prog 18 #[.string p, .string ⟨#[58]⟩] W fun e w' => e = .returned (.tuple #[.string (cutA p 58), .string (cutZ p 58), .bool (cutF p 58)]) ∧ Below W.heap.size W w' := fun W => cut_ok'.calls (args := [.string p, .string ⟨#[58]⟩]) rfl ⟨⟨58, rfl⟩, by omega⟩ W
  have hport : ∀ W, Calls Tryd.prog 47 #[.string (cutZ p 58)] W fun e w' => e = .returned (.bool (portS (cutZ p 58))) ∧ Below W.heap.size W w' := fun W => port_ok.calls (args := [.string (cutZ p 58)]) rfl (by have := cutZ_size p 58; omega) W
  have hsz2 := cutA_size p 58
  obtain ⟨hst, hhst⟩ : ∃ h, h = cutA p 58 := ⟨_, rfl⟩
  obtain ⟨prt, hprt⟩ : ∃ h, h = cutZ p 58 := ⟨_, rfl⟩
  have hdom : domainPS p = bif cutF p 58 && !portS prt then false else (splitS 46 hst).all labelB := by rw [hhst, hprt]; rfl
  rw [← hhst, ← hprt] at hcut
  rw [← hprt] at hport
  rw [← hhst] at hsz2
  clear hhst hprt
  have b00 := Boxed.new w 4 (.bool false)
  have hB0 : Below w.heap.size w (w.alloc (.cells #[.bool false] 4)) := (Below.refl _ w).alloc (Nat.le_refl _) _
  have Hdom := Lib.hid hdom
  clear hdom
  cases hf : cutF p 58 <;> cases hq : portS prt <;> rw [hf] at hcut Hdom <;> rw [hq] at hport Hdom
  all_goals
    have Hcut := Lib.hid hcut
    have Hport := Lib.hid hport
    clear hcut hport
    refine callsIn_of_wp_marks Tryd.func31 rfl trivial ?_ rfl
    simp only [Tryd.ntmps31, List.size_toArray, List.length_cons, List.length_nil, Nat.reduceAdd, Nat.reduceSub, Array.replicate_succ, Array.replicate_zero, List.push_toArray, List.append_toArray, List.nil_append, List.cons_append]
    gi_wp2_with (refine ⟨trivial, ?_⟩; first | ((with_reducible refine (callsIn_wide.2 (Hcut.out _)).mono ?_); rintro e w1 ⟨rfl, hb1⟩; have b1 := boxed_later b00 hb1; have c1 := b1.cell; have f1 := b1.frozen) | ((with_reducible refine (callsIn_wide.2 (Hport.out _)).mono ?_); rintro e w2 ⟨rfl, hb2⟩; have b2 := boxed_later b1 hb2; have c2 := b2.cell; have f2 := b2.frozen) | ((with_reducible refine (callsIn_wide.2 (SplitSeq_calls hst ⟨#[46]⟩ _)).mono ?_); rintro e w3 ⟨rfl, rfl⟩) | skip)
  · have hBB : Below w.heap.size w w1 := hB0.trans (hb1.mono (by simp))
    have hwB : w.heap.size < w1.heap.size := b1.lt
    have b0 := ((b1.alloc (.cells #[.string hst] 9)).alloc (.cells #[.string ⟨#[46]⟩] 9)).alloc (.cells #[.int .i64 0] 3)
    have b3 := ((Boxed.new w1 9 (.string hst)).alloc (.cells #[.string ⟨#[46]⟩] 9)).alloc (.cells #[.int .i64 0] 3)
    have b4 := (Boxed.new (w1.alloc (.cells #[.string hst] 9)) 9 (.string ⟨#[46]⟩)).alloc (.cells #[.int .i64 0] 3)
    have b5 := Boxed.new ((w1.alloc (.cells #[.string hst] 9)).alloc (.cells #[.string ⟨#[46]⟩] 9)) 3 (.int .i64 0)
    have hB : Below w.heap.size w (((w1.alloc (.cells #[.string hst] 9)).alloc (.cells #[.string ⟨#[46]⟩] 9)).alloc (.cells #[.int .i64 0] 3)) :=
      ((hBB.alloc (by omega) _).alloc (by simp; omega) _).alloc (by simp; omega) _
    generalize hW : ((w1.alloc (.cells #[.string hst] 9)).alloc (.cells #[.string ⟨#[46]⟩] 9)).alloc (.cells #[.int .i64 0] 3) = W6 at b0 b3 b4 b5 hB ⊢
    have hsz : W6.heap.size = w1.heap.size + 3 := by rw [← hW]; simp
    clear hW
    simp only [World.size_alloc, Nat.add_assoc, Nat.reduceAdd] at b0 b3 b4 b5 ⊢
    have hdom : domainPS p = (splitS 46 hst).all labelB := Hdom.out
    clear Hdom Hcut Hport
    have Hdom := Lib.hid hdom
    clear hdom
    obtain ⟨B, hBe⟩ : ∃ B, B = w1.heap.size := ⟨_, rfl⟩
    rw [← hBe] at b3 b4 b5 hsz hwB ⊢
    refine wpIn_rangeFunc_box rfl (by omega) (gf := 79) (lb := #[.pointer (some ⟨B + 1, 0, none⟩), .pointer (some ⟨B, 0, none⟩), .pointer (some ⟨B + 2, 0, none⟩)]) rfl trivial (enters_of Tryd.func79 (by kernel_rfl) rfl)
      (splitSeq1_seq 4 B (by omega) 46 hst (by omega) W6 ⟨b3, b4, b5⟩) (by omega) (fun _ => rfl)
      (AllInv2 labelB w B) (AllOut2 labelB w B) (AllInv2.ownFrom _ w B _ (by omega)) (AllOut2.ownFrom _ w B _ (by omega)) (fun _ _ _ h hb => h.step hb) (fun _ _ _ _ h hb => h.step hb)
      ⟨b0, fun _ h => absurd h List.not_mem_nil, hB, hwB, by omega⟩ ?act0 ?assign ?body ?done ?stop
    case assign =>
      intro l x W K hK
      gi_wp2
      exact hK
    case body =>
      rintro l pre x W ⟨h1, h2, hb, hk, hz⟩ hpx
      have hxs : x.size < 2 ^ 62 := by
        have hm : x ∈ splitS 46 hst := hpx.subset (by simp)
        obtain ⟨q, hq, rfl⟩ := List.mem_map.1 hm
        have := splitB_mem_length 46 _ q hq
        rw [bs_size]
        have : hst.data.toList.length = hst.size := Array.length_toList ..
        omega
      have hcall : ∀ W, Calls Tryd.prog 49 #[.string x] W fun e w' => e = .returned (.bool (labelB x)) ∧ Below W.heap.size W w' := fun W => label_ok.calls (args := [.string x]) rfl hxs W
      have Hcall := Lib.hid hcall
      clear hcall hxs
      cases hx : labelB x with
      | true =>
        rw [hx] at Hcall
        gi_wp2_with (refine ⟨trivial, ?_⟩; (with_reducible refine (CallsIn.inRound l (callsIn_wide.2 (Hcall.out _))).mono ?_); rintro e w' ⟨rfl, hbb⟩)
        exact ⟨keeps_below hbb, boxkept_below hbb (by omega), (hbb.block _ h1.lt).trans h1, fun y hy => by
          rcases List.mem_append.1 hy with hy | hy
          · exact h2 y hy
          · rw [List.mem_singleton.1 hy]; exact hx, hb.trans (hbb.mono hb.size), hk, by have := hbb.size; omega⟩
      | false =>
        rw [hx] at Hcall
        gi_wp2_with (refine ⟨trivial, ?_⟩; (with_reducible refine (CallsIn.inRound l (callsIn_wide.2 (Hcall.out _))).mono ?_); rintro e w' ⟨rfl, hbb⟩; have h1' := boxed_later h1 hbb; have c0 := h1'.cell; have f0 := h1'.frozen)
        exact ⟨(keeps_below hbb).trans ((KeepsOthers.setCell _ _ _).from _), rfl, h1'.set _, ⟨x, by simp, hx⟩, (hb.trans (hbb.mono hb.size)).setCell (p := ⟨w.heap.size, 0, none⟩) (Nat.le_refl _) _, hk⟩
    case done =>
      rintro D W hD ⟨h1, h2, hb, hk, hz⟩ hK
      have c0 := h1.cell
      have f0 := h1.frozen
      have hall : domainPS p = true := Hdom.out.trans (List.all_eq_true.2 h2)
      have Hall := Lib.hid hall
      clear hall
      gi_wp2
      have hK' := (KeepsOthers.setCell W ⟨w.heap.size, 0, none⟩ (.bool true)).same D _ hK rfl
      have u := (h1.set (.bool true))
      refine ⟨by simp, .inl ⟨_, _, rfl, run_takeDeferred hK', ?_⟩⟩
      have r := cell_kept u.cell (grownBy_putObj' _ D (.deferred none)) (fun r e => by cases e; exact ⟨_, hK', rfl⟩)
      refine ⟨.bool true, ?_, by rw [Hall.out], (hb.setCell (p := ⟨w.heap.size, 0, none⟩) (Nat.le_refl _) _).trans (belowK_b (w := w) (Nat.le_refl _) _ D _ _ (by omega) hK' rfl rfl)⟩
      simp [results, Tryd.f31, go_sem, r]
    case stop =>
      rintro D c pre W hD hpre ⟨rfl, h1, ⟨x, hx1, hx2⟩, hb, hk⟩ hK
      gi_wp2
      refine ⟨by simp, .inl ⟨_, _, rfl, run_takeDeferred hK, ?_⟩⟩
      have r := cell_kept h1.cell (grownBy_putObj' _ D (.deferred none)) (fun r e => by cases e; exact ⟨_, hK, rfl⟩)
      have hall : domainPS p = false := by
        rw [Hdom.out]
        cases h : (splitS 46 hst).all labelB with
        | false => rfl
        | true =>
          have := List.all_eq_true.1 h x (hpre.subset hx1)
          rw [hx2] at this
          cases this
      refine ⟨.bool false, ?_, by rw [hall], hb.trans (belowK_b (w := w) (Nat.le_refl _) _ D _ _ (by omega) hK rfl rfl)⟩
      simp [results, Tryd.f31, go_sem, r]
  · have hBB : Below w.heap.size w w1 := hB0.trans (hb1.mono (by simp))
    have hwB : w.heap.size < w1.heap.size := b1.lt
    have b0 := ((b1.alloc (.cells #[.string hst] 9)).alloc (.cells #[.string ⟨#[46]⟩] 9)).alloc (.cells #[.int .i64 0] 3)
    have b3 := ((Boxed.new w1 9 (.string hst)).alloc (.cells #[.string ⟨#[46]⟩] 9)).alloc (.cells #[.int .i64 0] 3)
    have b4 := (Boxed.new (w1.alloc (.cells #[.string hst] 9)) 9 (.string ⟨#[46]⟩)).alloc (.cells #[.int .i64 0] 3)
    have b5 := Boxed.new ((w1.alloc (.cells #[.string hst] 9)).alloc (.cells #[.string ⟨#[46]⟩] 9)) 3 (.int .i64 0)
    have hB : Below w.heap.size w (((w1.alloc (.cells #[.string hst] 9)).alloc (.cells #[.string ⟨#[46]⟩] 9)).alloc (.cells #[.int .i64 0] 3)) :=
      ((hBB.alloc (by omega) _).alloc (by simp; omega) _).alloc (by simp; omega) _
    generalize hW : ((w1.alloc (.cells #[.string hst] 9)).alloc (.cells #[.string ⟨#[46]⟩] 9)).alloc (.cells #[.int .i64 0] 3) = W6 at b0 b3 b4 b5 hB ⊢
    have hsz : W6.heap.size = w1.heap.size + 3 := by rw [← hW]; simp
    clear hW
    simp only [World.size_alloc, Nat.add_assoc, Nat.reduceAdd] at b0 b3 b4 b5 ⊢
    have hdom : domainPS p = (splitS 46 hst).all labelB := Hdom.out
    clear Hdom Hcut Hport
    have Hdom := Lib.hid hdom
    clear hdom
    obtain ⟨B, hBe⟩ : ∃ B, B = w1.heap.size := ⟨_, rfl⟩
    rw [← hBe] at b3 b4 b5 hsz hwB ⊢
    refine wpIn_rangeFunc_box rfl (by omega) (gf := 79) (lb := #[.pointer (some ⟨B + 1, 0, none⟩), .pointer (some ⟨B, 0, none⟩), .pointer (some ⟨B + 2, 0, none⟩)]) rfl trivial (enters_of Tryd.func79 (by kernel_rfl) rfl)
      (splitSeq1_seq 4 B (by omega) 46 hst (by omega) W6 ⟨b3, b4, b5⟩) (by omega) (fun _ => rfl)
      (AllInv2 labelB w B) (AllOut2 labelB w B) (AllInv2.ownFrom _ w B _ (by omega)) (AllOut2.ownFrom _ w B _ (by omega)) (fun _ _ _ h hb => h.step hb) (fun _ _ _ _ h hb => h.step hb)
      ⟨b0, fun _ h => absurd h List.not_mem_nil, hB, hwB, by omega⟩ ?act1 ?assign ?body ?done ?stop
    case assign =>
      intro l x W K hK
      gi_wp2
      exact hK
    case body =>
      rintro l pre x W ⟨h1, h2, hb, hk, hz⟩ hpx
      have hxs : x.size < 2 ^ 62 := by
        have hm : x ∈ splitS 46 hst := hpx.subset (by simp)
        obtain ⟨q, hq, rfl⟩ := List.mem_map.1 hm
        have := splitB_mem_length 46 _ q hq
        rw [bs_size]
        have : hst.data.toList.length = hst.size := Array.length_toList ..
        omega
      have hcall : ∀ W, Calls Tryd.prog 49 #[.string x] W fun e w' => e = .returned (.bool (labelB x)) ∧ Below W.heap.size W w' := fun W => label_ok.calls (args := [.string x]) rfl hxs W
      have Hcall := Lib.hid hcall
      clear hcall hxs
      cases hx : labelB x with
      | true =>
        rw [hx] at Hcall
        gi_wp2_with (refine ⟨trivial, ?_⟩; (with_reducible refine (CallsIn.inRound l (callsIn_wide.2 (Hcall.out _))).mono ?_); rintro e w' ⟨rfl, hbb⟩)
        exact ⟨keeps_below hbb, boxkept_below hbb (by omega), (hbb.block _ h1.lt).trans h1, fun y hy => by
          rcases List.mem_append.1 hy with hy | hy
          · exact h2 y hy
          · rw [List.mem_singleton.1 hy]; exact hx, hb.trans (hbb.mono hb.size), hk, by have := hbb.size; omega⟩
      | false =>
        rw [hx] at Hcall
        gi_wp2_with (refine ⟨trivial, ?_⟩; (with_reducible refine (CallsIn.inRound l (callsIn_wide.2 (Hcall.out _))).mono ?_); rintro e w' ⟨rfl, hbb⟩; have h1' := boxed_later h1 hbb; have c0 := h1'.cell; have f0 := h1'.frozen)
        exact ⟨(keeps_below hbb).trans ((KeepsOthers.setCell _ _ _).from _), rfl, h1'.set _, ⟨x, by simp, hx⟩, (hb.trans (hbb.mono hb.size)).setCell (p := ⟨w.heap.size, 0, none⟩) (Nat.le_refl _) _, hk⟩
    case done =>
      rintro D W hD ⟨h1, h2, hb, hk, hz⟩ hK
      have c0 := h1.cell
      have f0 := h1.frozen
      have hall : domainPS p = true := Hdom.out.trans (List.all_eq_true.2 h2)
      have Hall := Lib.hid hall
      clear hall
      gi_wp2
      have hK' := (KeepsOthers.setCell W ⟨w.heap.size, 0, none⟩ (.bool true)).same D _ hK rfl
      have u := (h1.set (.bool true))
      refine ⟨by simp, .inl ⟨_, _, rfl, run_takeDeferred hK', ?_⟩⟩
      have r := cell_kept u.cell (grownBy_putObj' _ D (.deferred none)) (fun r e => by cases e; exact ⟨_, hK', rfl⟩)
      refine ⟨.bool true, ?_, by rw [Hall.out], (hb.setCell (p := ⟨w.heap.size, 0, none⟩) (Nat.le_refl _) _).trans (belowK_b (w := w) (Nat.le_refl _) _ D _ _ (by omega) hK' rfl rfl)⟩
      simp [results, Tryd.f31, go_sem, r]
    case stop =>
      rintro D c pre W hD hpre ⟨rfl, h1, ⟨x, hx1, hx2⟩, hb, hk⟩ hK
      gi_wp2
      refine ⟨by simp, .inl ⟨_, _, rfl, run_takeDeferred hK, ?_⟩⟩
      have r := cell_kept h1.cell (grownBy_putObj' _ D (.deferred none)) (fun r e => by cases e; exact ⟨_, hK, rfl⟩)
      have hall : domainPS p = false := by
        rw [Hdom.out]
        cases h : (splitS 46 hst).all labelB with
        | false => rfl
        | true =>
          have := List.all_eq_true.1 h x (hpre.subset hx1)
          rw [hx2] at this
          cases this
      refine ⟨.bool false, ?_, by rw [hall], hb.trans (belowK_b (w := w) (Nat.le_refl _) _ D _ _ (by omega) hK rfl rfl)⟩
      simp [results, Tryd.f31, go_sem, r]
  · have hBB : Below w.heap.size w w2 := (hB0.trans (hb1.mono (by simp))).trans (hb2.mono (by have := hb1.size; simp at this; omega))
    have u := b2.set (.bool false)
    have hdom : domainPS p = false := Hdom.out
    refine ⟨.bool false, ?_, by rw [hdom], hBB.setCell (p := ⟨w.heap.size, 0, none⟩) (Nat.le_refl _) _⟩
    simp [results, Tryd.f31, go_sem, u.cell]
  · have hBB : Below w.heap.size w w2 := (hB0.trans (hb1.mono (by simp))).trans (hb2.mono (by have := hb1.size; simp at this; omega))
    have hwB : w.heap.size < w2.heap.size := b2.lt
    have b0 := ((b2.alloc (.cells #[.string hst] 9)).alloc (.cells #[.string ⟨#[46]⟩] 9)).alloc (.cells #[.int .i64 0] 3)
    have b3 := ((Boxed.new w2 9 (.string hst)).alloc (.cells #[.string ⟨#[46]⟩] 9)).alloc (.cells #[.int .i64 0] 3)
    have b4 := (Boxed.new (w2.alloc (.cells #[.string hst] 9)) 9 (.string ⟨#[46]⟩)).alloc (.cells #[.int .i64 0] 3)
    have b5 := Boxed.new ((w2.alloc (.cells #[.string hst] 9)).alloc (.cells #[.string ⟨#[46]⟩] 9)) 3 (.int .i64 0)
    have hB : Below w.heap.size w (((w2.alloc (.cells #[.string hst] 9)).alloc (.cells #[.string ⟨#[46]⟩] 9)).alloc (.cells #[.int .i64 0] 3)) :=
      ((hBB.alloc (by omega) _).alloc (by simp; omega) _).alloc (by simp; omega) _
    generalize hW : ((w2.alloc (.cells #[.string hst] 9)).alloc (.cells #[.string ⟨#[46]⟩] 9)).alloc (.cells #[.int .i64 0] 3) = W6 at b0 b3 b4 b5 hB ⊢
    have hsz : W6.heap.size = w2.heap.size + 3 := by rw [← hW]; simp
    clear hW
    simp only [World.size_alloc, Nat.add_assoc, Nat.reduceAdd] at b0 b3 b4 b5 ⊢
    have hdom : domainPS p = (splitS 46 hst).all labelB := Hdom.out
    clear Hdom Hcut Hport
    have Hdom := Lib.hid hdom
    clear hdom
    obtain ⟨B, hBe⟩ : ∃ B, B = w2.heap.size := ⟨_, rfl⟩
    rw [← hBe] at b3 b4 b5 hsz hwB ⊢
    refine wpIn_rangeFunc_box rfl (by omega) (gf := 79) (lb := #[.pointer (some ⟨B + 1, 0, none⟩), .pointer (some ⟨B, 0, none⟩), .pointer (some ⟨B + 2, 0, none⟩)]) rfl trivial (enters_of Tryd.func79 (by kernel_rfl) rfl)
      (splitSeq1_seq 4 B (by omega) 46 hst (by omega) W6 ⟨b3, b4, b5⟩) (by omega) (fun _ => rfl)
      (AllInv2 labelB w B) (AllOut2 labelB w B) (AllInv2.ownFrom _ w B _ (by omega)) (AllOut2.ownFrom _ w B _ (by omega)) (fun _ _ _ h hb => h.step hb) (fun _ _ _ _ h hb => h.step hb)
      ⟨b0, fun _ h => absurd h List.not_mem_nil, hB, hwB, by omega⟩ ?act2 ?assign ?body ?done ?stop
    case assign =>
      intro l x W K hK
      gi_wp2
      exact hK
    case body =>
      rintro l pre x W ⟨h1, h2, hb, hk, hz⟩ hpx
      have hxs : x.size < 2 ^ 62 := by
        have hm : x ∈ splitS 46 hst := hpx.subset (by simp)
        obtain ⟨q, hq, rfl⟩ := List.mem_map.1 hm
        have := splitB_mem_length 46 _ q hq
        rw [bs_size]
        have : hst.data.toList.length = hst.size := Array.length_toList ..
        omega
      have hcall : ∀ W, Calls Tryd.prog 49 #[.string x] W fun e w' => e = .returned (.bool (labelB x)) ∧ Below W.heap.size W w' := fun W => label_ok.calls (args := [.string x]) rfl hxs W
      have Hcall := Lib.hid hcall
      clear hcall hxs
      cases hx : labelB x with
      | true =>
        rw [hx] at Hcall
        gi_wp2_with (refine ⟨trivial, ?_⟩; (with_reducible refine (CallsIn.inRound l (callsIn_wide.2 (Hcall.out _))).mono ?_); rintro e w' ⟨rfl, hbb⟩)
        exact ⟨keeps_below hbb, boxkept_below hbb (by omega), (hbb.block _ h1.lt).trans h1, fun y hy => by
          rcases List.mem_append.1 hy with hy | hy
          · exact h2 y hy
          · rw [List.mem_singleton.1 hy]; exact hx, hb.trans (hbb.mono hb.size), hk, by have := hbb.size; omega⟩
      | false =>
        rw [hx] at Hcall
        gi_wp2_with (refine ⟨trivial, ?_⟩; (with_reducible refine (CallsIn.inRound l (callsIn_wide.2 (Hcall.out _))).mono ?_); rintro e w' ⟨rfl, hbb⟩; have h1' := boxed_later h1 hbb; have c0 := h1'.cell; have f0 := h1'.frozen)
        exact ⟨(keeps_below hbb).trans ((KeepsOthers.setCell _ _ _).from _), rfl, h1'.set _, ⟨x, by simp, hx⟩, (hb.trans (hbb.mono hb.size)).setCell (p := ⟨w.heap.size, 0, none⟩) (Nat.le_refl _) _, hk⟩
    case done =>
      rintro D W hD ⟨h1, h2, hb, hk, hz⟩ hK
      have c0 := h1.cell
      have f0 := h1.frozen
      have hall : domainPS p = true := Hdom.out.trans (List.all_eq_true.2 h2)
      have Hall := Lib.hid hall
      clear hall
      gi_wp2
      have hK' := (KeepsOthers.setCell W ⟨w.heap.size, 0, none⟩ (.bool true)).same D _ hK rfl
      have u := (h1.set (.bool true))
      refine ⟨by simp, .inl ⟨_, _, rfl, run_takeDeferred hK', ?_⟩⟩
      have r := cell_kept u.cell (grownBy_putObj' _ D (.deferred none)) (fun r e => by cases e; exact ⟨_, hK', rfl⟩)
      refine ⟨.bool true, ?_, by rw [Hall.out], (hb.setCell (p := ⟨w.heap.size, 0, none⟩) (Nat.le_refl _) _).trans (belowK_b (w := w) (Nat.le_refl _) _ D _ _ (by omega) hK' rfl rfl)⟩
      simp [results, Tryd.f31, go_sem, r]
    case stop =>
      rintro D c pre W hD hpre ⟨rfl, h1, ⟨x, hx1, hx2⟩, hb, hk⟩ hK
      gi_wp2
      refine ⟨by simp, .inl ⟨_, _, rfl, run_takeDeferred hK, ?_⟩⟩
      have r := cell_kept h1.cell (grownBy_putObj' _ D (.deferred none)) (fun r e => by cases e; exact ⟨_, hK, rfl⟩)
      have hall : domainPS p = false := by
        rw [Hdom.out]
        cases h : (splitS 46 hst).all labelB with
        | false => rfl
        | true =>
          have := List.all_eq_true.1 h x (hpre.subset hx1)
          rw [hx2] at this
          cases this
      refine ⟨.bool false, ?_, by rw [hall], hb.trans (belowK_b (w := w) (Nat.le_refl _) _ D _ _ (by omega) hK rfl rfl)⟩
      simp [results, Tryd.f31, go_sem, r]
def domainPG : Pure
  | [.string s] => some (s.size ≤ 1000000, .bool (domainPS s))
  | _ => none
theorem pdomain_ok : PureOk Tryd.prog 31 domainPG :=
  .of_shelf Tryd.func31 (by kernel_rfl) rfl fun args c r hg => by
    unfold domainPG at hg
    split at hg
    · rename_i s
      cases hg
      exact ⟨rfl, fun hcc => ⟨rfl, fun w => callsIn_wide.1 (domain_in s hcc w)⟩⟩
    · cases hg
end Go.Proofs.YtofcjkbgieenlaaDoor.PM

namespace Go.Proofs.YtofcjkbgieenlaaDoor.PM
open Go Go.Proofs Go.RowKit
set_option maxRecDepth 100000
set_option linter.unusedVariables false
set_option linter.unusedSimpArgs false

structure RefP (r : RefT) : Prop where
  ok : RefOk r
  d : r.d.size ≤ 1000000
  p : r.p.size ≤ 1000000
def refPG (f : RefT → Value) : Pure
  | [.agg ⟨l⟩] => match isRef l with
    | some r => some (RefP r, f r)
    | none => none
  | _ => none
def hasSlash (s : ByteArray) : Bool := decide (0 ≤ Lib.indexByte s.data.toList 47)
def taggedS (r : RefT) : Bool := (!isS r.t [] && tagS r.t) || (isS r.t [] && r.b)
def knownS (r : RefT) : Bool := toldS r.d && (!isS r.d [105, 110, 100, 101, 120, 46, 100, 111, 99, 107, 101, 114, 46, 105, 111] && (!isS r.d [100, 111, 99, 107, 101, 114, 46, 105, 111] || hasSlash r.p))
def checkS (r : RefT) : Int :=
  bif !domainPS r.d || (!pathPS r.p || (!taggedS r || (!(r.b || eqD r.x zerosI) || (!knownS r || decide (((textS tellS r).size : Int) > 200))))) then 10 else 0
theorem check_ok : PureOk Tryd.prog 15 (refPG fun r => .int .i64 (checkS r)) := by
  refine .of_run (call := callOf [(31, pureS domainPG), (32, pureS pathPG), (29, pureS tagG), (30, pureS toldG), (21, pureS (two (fun s t => t = ⟨#[47]⟩) fun s t => .bool (decide (0 ≤ Lib.indexByte s.data.toList 47)))), (26, pureS textG)]) (hint := hints 15) (tb := noTab) hm (callOf_cons pdomain_ok.spec (callOf_cons ppath_ok.spec (callOf_cons tag_ok.spec (callOf_cons told_ok.spec (callOf_cons contains_ok.spec (callOf_cons ptext_ok.spec callOf_nil)))))) Tryd.func15 (by kernel_rfl) rfl (by kernel_rfl) (by repeat' first | exact trivial | constructor |  (intro _ h; cases h)) fun args c r h => ?_
  unfold refPG at h
  split at h
  · rename_i l
    split at h
    · rename_i r hr
      cases h
      refine ⟨by show (plainL l && true) = true; rw [plain_ref hr]; rfl, fun hs => ⟨rfl, 1, fun K hK => ?_⟩⟩
      obtain ⟨h1, h2⟩ := isRef_some hr
      rw [h1]
      have hd := decI_digL h2
      have he : RefT.mk r.d r.p r.t (decI (digL r.x)) r.b = r := by rw [hd]
      obtain ⟨hok, hsd, hsp⟩ := hs
      obtain ⟨k1, k2, k3, k4, k5⟩ := hok
      have hok : RefOk r := ⟨k1, k2, k3, k4, k5⟩
      refine to (R := bcase (!(r.t.toList == (ByteArray.mk #[]).toList)) ((r.t.size < 4611686018427387904) ∧ (bcase (tagS r.t) (bcase r.b ((r.d.size < 2147483648) ∧ (bcase (toldS r.d) (bcase (!(r.d.toList == (ByteArray.mk #[105, 110, 100, 101, 120, 46, 100, 111, 99, 107, 101, 114, 46, 105, 111]).toList)) (bcase (!(r.d.toList == (ByteArray.mk #[100, 111, 99, 107, 101, 114, 46, 105, 111]).toList)) ((r.d.size ≤ 1000000) ∧ (bcase (!(domainPS r.d)) (K (.int .i64 (10 : Int)) []) ((r.p.size ≤ 1000000) ∧ (bcase (!(pathPS r.p)) (K (.int .i64 (10 : Int)) []) ((RefOk (RefT.mk r.d r.p r.t (decI (digL r.x)) r.b)) ∧ (bcase (decide ((↑(textS tellS (RefT.mk r.d r.p r.t (decI (digL r.x)) r.b)).size : Int) > (200 : Int))) (K (.int .i64 (10 : Int)) []) (K (.int .i64 (0 : Int)) []))))))) (((ByteArray.mk #[47]) = (ByteArray.mk #[47])) ∧ ((r.d.size ≤ 1000000) ∧ (bcase (!(domainPS r.d)) (K (.int .i64 (10 : Int)) []) ((r.p.size ≤ 1000000) ∧ (bcase (!(pathPS r.p)) (K (.int .i64 (10 : Int)) []) (bcase (!(decide ((0 : Int) ≤ (Lib.indexByte r.p.data.toList 47)))) (K (.int .i64 (10 : Int)) []) ((RefOk (RefT.mk r.d r.p r.t (decI (digL r.x)) r.b)) ∧ (bcase (decide ((↑(textS tellS (RefT.mk r.d r.p r.t (decI (digL r.x)) r.b)).size : Int) > (200 : Int))) (K (.int .i64 (10 : Int)) []) (K (.int .i64 (0 : Int)) [])))))))))) ((r.d.size ≤ 1000000) ∧ (bcase (!(domainPS r.d)) (K (.int .i64 (10 : Int)) []) ((r.p.size ≤ 1000000) ∧ (bcase (!(pathPS r.p)) (K (.int .i64 (10 : Int)) []) (K (.int .i64 (10 : Int)) [])))))) ((r.d.size ≤ 1000000) ∧ (bcase (!(domainPS r.d)) (K (.int .i64 (10 : Int)) []) ((r.p.size ≤ 1000000) ∧ (bcase (!(pathPS r.p)) (K (.int .i64 (10 : Int)) []) (K (.int .i64 (10 : Int)) []))))))) ((r.d.size < 2147483648) ∧ (bcase (toldS r.d) (bcase (!(r.d.toList == (ByteArray.mk #[105, 110, 100, 101, 120, 46, 100, 111, 99, 107, 101, 114, 46, 105, 111]).toList)) (bcase (!(r.d.toList == (ByteArray.mk #[100, 111, 99, 107, 101, 114, 46, 105, 111]).toList)) ((r.d.size ≤ 1000000) ∧ (bcase (!(domainPS r.d)) (K (.int .i64 (10 : Int)) []) ((r.p.size ≤ 1000000) ∧ (bcase (!(pathPS r.p)) (K (.int .i64 (10 : Int)) []) (bcase (!(eqD r.x zerosI)) (K (.int .i64 (10 : Int)) []) ((RefOk (RefT.mk r.d r.p r.t (decI (digL r.x)) r.b)) ∧ (bcase (decide ((↑(textS tellS (RefT.mk r.d r.p r.t (decI (digL r.x)) r.b)).size : Int) > (200 : Int))) (K (.int .i64 (10 : Int)) []) (K (.int .i64 (0 : Int)) [])))))))) (((ByteArray.mk #[47]) = (ByteArray.mk #[47])) ∧ ((r.d.size ≤ 1000000) ∧ (bcase (!(domainPS r.d)) (K (.int .i64 (10 : Int)) []) ((r.p.size ≤ 1000000) ∧ (bcase (!(pathPS r.p)) (K (.int .i64 (10 : Int)) []) (bcase (!(eqD r.x zerosI)) (K (.int .i64 (10 : Int)) []) (bcase (!(decide ((0 : Int) ≤ (Lib.indexByte r.p.data.toList 47)))) (K (.int .i64 (10 : Int)) []) ((RefOk (RefT.mk r.d r.p r.t (decI (digL r.x)) r.b)) ∧ (bcase (decide ((↑(textS tellS (RefT.mk r.d r.p r.t (decI (digL r.x)) r.b)).size : Int) > (200 : Int))) (K (.int .i64 (10 : Int)) []) (K (.int .i64 (0 : Int)) []))))))))))) ((r.d.size ≤ 1000000) ∧ (bcase (!(domainPS r.d)) (K (.int .i64 (10 : Int)) []) ((r.p.size ≤ 1000000) ∧ (bcase (!(pathPS r.p)) (K (.int .i64 (10 : Int)) []) (bcase (!(eqD r.x zerosI)) (K (.int .i64 (10 : Int)) []) (K (.int .i64 (10 : Int)) []))))))) ((r.d.size ≤ 1000000) ∧ (bcase (!(domainPS r.d)) (K (.int .i64 (10 : Int)) []) ((r.p.size ≤ 1000000) ∧ (bcase (!(pathPS r.p)) (K (.int .i64 (10 : Int)) []) (bcase (!(eqD r.x zerosI)) (K (.int .i64 (10 : Int)) []) (K (.int .i64 (10 : Int)) []))))))))) (bcase (r.t.toList == (ByteArray.mk #[]).toList) (bcase r.b ((r.d.size < 2147483648) ∧ (bcase (toldS r.d) (bcase (!(r.d.toList == (ByteArray.mk #[105, 110, 100, 101, 120, 46, 100, 111, 99, 107, 101, 114, 46, 105, 111]).toList)) (bcase (!(r.d.toList == (ByteArray.mk #[100, 111, 99, 107, 101, 114, 46, 105, 111]).toList)) ((r.d.size ≤ 1000000) ∧ (bcase (!(domainPS r.d)) (K (.int .i64 (10 : Int)) []) ((r.p.size ≤ 1000000) ∧ (bcase (!(pathPS r.p)) (K (.int .i64 (10 : Int)) []) (bcase (!r.b) (K (.int .i64 (10 : Int)) []) ((RefOk (RefT.mk r.d r.p r.t (decI (digL r.x)) r.b)) ∧ (bcase (decide ((↑(textS tellS (RefT.mk r.d r.p r.t (decI (digL r.x)) r.b)).size : Int) > (200 : Int))) (K (.int .i64 (10 : Int)) []) (K (.int .i64 (0 : Int)) [])))))))) (((ByteArray.mk #[47]) = (ByteArray.mk #[47])) ∧ ((r.d.size ≤ 1000000) ∧ (bcase (!(domainPS r.d)) (K (.int .i64 (10 : Int)) []) ((r.p.size ≤ 1000000) ∧ (bcase (!(pathPS r.p)) (K (.int .i64 (10 : Int)) []) (bcase (!r.b) (K (.int .i64 (10 : Int)) []) (bcase (!(decide ((0 : Int) ≤ (Lib.indexByte r.p.data.toList 47)))) (K (.int .i64 (10 : Int)) []) ((RefOk (RefT.mk r.d r.p r.t (decI (digL r.x)) r.b)) ∧ (bcase (decide ((↑(textS tellS (RefT.mk r.d r.p r.t (decI (digL r.x)) r.b)).size : Int) > (200 : Int))) (K (.int .i64 (10 : Int)) []) (K (.int .i64 (0 : Int)) []))))))))))) ((r.d.size ≤ 1000000) ∧ (bcase (!(domainPS r.d)) (K (.int .i64 (10 : Int)) []) ((r.p.size ≤ 1000000) ∧ (bcase (!(pathPS r.p)) (K (.int .i64 (10 : Int)) []) (bcase (!r.b) (K (.int .i64 (10 : Int)) []) (K (.int .i64 (10 : Int)) []))))))) ((r.d.size ≤ 1000000) ∧ (bcase (!(domainPS r.d)) (K (.int .i64 (10 : Int)) []) ((r.p.size ≤ 1000000) ∧ (bcase (!(pathPS r.p)) (K (.int .i64 (10 : Int)) []) (bcase (!r.b) (K (.int .i64 (10 : Int)) []) (K (.int .i64 (10 : Int)) [])))))))) ((r.d.size < 2147483648) ∧ (bcase (toldS r.d) (bcase (!(r.d.toList == (ByteArray.mk #[105, 110, 100, 101, 120, 46, 100, 111, 99, 107, 101, 114, 46, 105, 111]).toList)) (bcase (!(r.d.toList == (ByteArray.mk #[100, 111, 99, 107, 101, 114, 46, 105, 111]).toList)) ((r.d.size ≤ 1000000) ∧ (bcase (!(domainPS r.d)) (K (.int .i64 (10 : Int)) []) ((r.p.size ≤ 1000000) ∧ (bcase (!(pathPS r.p)) (K (.int .i64 (10 : Int)) []) (bcase (!r.b) (K (.int .i64 (10 : Int)) []) (bcase (!(eqD r.x zerosI)) (K (.int .i64 (10 : Int)) []) ((RefOk (RefT.mk r.d r.p r.t (decI (digL r.x)) r.b)) ∧ (bcase (decide ((↑(textS tellS (RefT.mk r.d r.p r.t (decI (digL r.x)) r.b)).size : Int) > (200 : Int))) (K (.int .i64 (10 : Int)) []) (K (.int .i64 (0 : Int)) []))))))))) (((ByteArray.mk #[47]) = (ByteArray.mk #[47])) ∧ ((r.d.size ≤ 1000000) ∧ (bcase (!(domainPS r.d)) (K (.int .i64 (10 : Int)) []) ((r.p.size ≤ 1000000) ∧ (bcase (!(pathPS r.p)) (K (.int .i64 (10 : Int)) []) (bcase (!r.b) (K (.int .i64 (10 : Int)) []) (bcase (!(eqD r.x zerosI)) (K (.int .i64 (10 : Int)) []) (bcase (!(decide ((0 : Int) ≤ (Lib.indexByte r.p.data.toList 47)))) (K (.int .i64 (10 : Int)) []) ((RefOk (RefT.mk r.d r.p r.t (decI (digL r.x)) r.b)) ∧ (bcase (decide ((↑(textS tellS (RefT.mk r.d r.p r.t (decI (digL r.x)) r.b)).size : Int) > (200 : Int))) (K (.int .i64 (10 : Int)) []) (K (.int .i64 (0 : Int)) [])))))))))))) ((r.d.size ≤ 1000000) ∧ (bcase (!(domainPS r.d)) (K (.int .i64 (10 : Int)) []) ((r.p.size ≤ 1000000) ∧ (bcase (!(pathPS r.p)) (K (.int .i64 (10 : Int)) []) (bcase (!r.b) (K (.int .i64 (10 : Int)) []) (bcase (!(eqD r.x zerosI)) (K (.int .i64 (10 : Int)) []) (K (.int .i64 (10 : Int)) [])))))))) ((r.d.size ≤ 1000000) ∧ (bcase (!(domainPS r.d)) (K (.int .i64 (10 : Int)) []) ((r.p.size ≤ 1000000) ∧ (bcase (!(pathPS r.p)) (K (.int .i64 (10 : Int)) []) (bcase (!r.b) (K (.int .i64 (10 : Int)) []) (bcase (!(eqD r.x zerosI)) (K (.int .i64 (10 : Int)) []) (K (.int .i64 (10 : Int)) [])))))))))) (bcase r.b ((r.d.size < 2147483648) ∧ (bcase (toldS r.d) (bcase (!(r.d.toList == (ByteArray.mk #[105, 110, 100, 101, 120, 46, 100, 111, 99, 107, 101, 114, 46, 105, 111]).toList)) (bcase (!(r.d.toList == (ByteArray.mk #[100, 111, 99, 107, 101, 114, 46, 105, 111]).toList)) ((r.d.size ≤ 1000000) ∧ (bcase (!(domainPS r.d)) (K (.int .i64 (10 : Int)) []) ((r.p.size ≤ 1000000) ∧ (bcase (!(pathPS r.p)) (K (.int .i64 (10 : Int)) []) (K (.int .i64 (10 : Int)) []))))) (((ByteArray.mk #[47]) = (ByteArray.mk #[47])) ∧ ((r.d.size ≤ 1000000) ∧ (bcase (!(domainPS r.d)) (K (.int .i64 (10 : Int)) []) ((r.p.size ≤ 1000000) ∧ (bcase (!(pathPS r.p)) (K (.int .i64 (10 : Int)) []) (K (.int .i64 (10 : Int)) []))))))) ((r.d.size ≤ 1000000) ∧ (bcase (!(domainPS r.d)) (K (.int .i64 (10 : Int)) []) ((r.p.size ≤ 1000000) ∧ (bcase (!(pathPS r.p)) (K (.int .i64 (10 : Int)) []) (K (.int .i64 (10 : Int)) [])))))) ((r.d.size ≤ 1000000) ∧ (bcase (!(domainPS r.d)) (K (.int .i64 (10 : Int)) []) ((r.p.size ≤ 1000000) ∧ (bcase (!(pathPS r.p)) (K (.int .i64 (10 : Int)) []) (K (.int .i64 (10 : Int)) []))))))) ((r.d.size < 2147483648) ∧ (bcase (toldS r.d) (bcase (!(r.d.toList == (ByteArray.mk #[105, 110, 100, 101, 120, 46, 100, 111, 99, 107, 101, 114, 46, 105, 111]).toList)) (bcase (!(r.d.toList == (ByteArray.mk #[100, 111, 99, 107, 101, 114, 46, 105, 111]).toList)) ((r.d.size ≤ 1000000) ∧ (bcase (!(domainPS r.d)) (K (.int .i64 (10 : Int)) []) ((r.p.size ≤ 1000000) ∧ (bcase (!(pathPS r.p)) (K (.int .i64 (10 : Int)) []) (K (.int .i64 (10 : Int)) []))))) (((ByteArray.mk #[47]) = (ByteArray.mk #[47])) ∧ ((r.d.size ≤ 1000000) ∧ (bcase (!(domainPS r.d)) (K (.int .i64 (10 : Int)) []) ((r.p.size ≤ 1000000) ∧ (bcase (!(pathPS r.p)) (K (.int .i64 (10 : Int)) []) (K (.int .i64 (10 : Int)) []))))))) ((r.d.size ≤ 1000000) ∧ (bcase (!(domainPS r.d)) (K (.int .i64 (10 : Int)) []) ((r.p.size ≤ 1000000) ∧ (bcase (!(pathPS r.p)) (K (.int .i64 (10 : Int)) []) (K (.int .i64 (10 : Int)) [])))))) ((r.d.size ≤ 1000000) ∧ (bcase (!(domainPS r.d)) (K (.int .i64 (10 : Int)) []) ((r.p.size ≤ 1000000) ∧ (bcase (!(pathPS r.p)) (K (.int .i64 (10 : Int)) []) (K (.int .i64 (10 : Int)) []))))))))))) (bcase (r.t.toList == (ByteArray.mk #[]).toList) (bcase r.b ((r.d.size < 2147483648) ∧ (bcase (toldS r.d) (bcase (!(r.d.toList == (ByteArray.mk #[105, 110, 100, 101, 120, 46, 100, 111, 99, 107, 101, 114, 46, 105, 111]).toList)) (bcase (!(r.d.toList == (ByteArray.mk #[100, 111, 99, 107, 101, 114, 46, 105, 111]).toList)) ((r.d.size ≤ 1000000) ∧ (bcase (!(domainPS r.d)) (K (.int .i64 (10 : Int)) []) ((r.p.size ≤ 1000000) ∧ (bcase (!(pathPS r.p)) (K (.int .i64 (10 : Int)) []) (bcase (!r.b) (K (.int .i64 (10 : Int)) []) ((RefOk (RefT.mk r.d r.p r.t (decI (digL r.x)) r.b)) ∧ (bcase (decide ((↑(textS tellS (RefT.mk r.d r.p r.t (decI (digL r.x)) r.b)).size : Int) > (200 : Int))) (K (.int .i64 (10 : Int)) []) (K (.int .i64 (0 : Int)) [])))))))) (((ByteArray.mk #[47]) = (ByteArray.mk #[47])) ∧ ((r.d.size ≤ 1000000) ∧ (bcase (!(domainPS r.d)) (K (.int .i64 (10 : Int)) []) ((r.p.size ≤ 1000000) ∧ (bcase (!(pathPS r.p)) (K (.int .i64 (10 : Int)) []) (bcase (!r.b) (K (.int .i64 (10 : Int)) []) (bcase (!(decide ((0 : Int) ≤ (Lib.indexByte r.p.data.toList 47)))) (K (.int .i64 (10 : Int)) []) ((RefOk (RefT.mk r.d r.p r.t (decI (digL r.x)) r.b)) ∧ (bcase (decide ((↑(textS tellS (RefT.mk r.d r.p r.t (decI (digL r.x)) r.b)).size : Int) > (200 : Int))) (K (.int .i64 (10 : Int)) []) (K (.int .i64 (0 : Int)) []))))))))))) ((r.d.size ≤ 1000000) ∧ (bcase (!(domainPS r.d)) (K (.int .i64 (10 : Int)) []) ((r.p.size ≤ 1000000) ∧ (bcase (!(pathPS r.p)) (K (.int .i64 (10 : Int)) []) (bcase (!r.b) (K (.int .i64 (10 : Int)) []) (K (.int .i64 (10 : Int)) []))))))) ((r.d.size ≤ 1000000) ∧ (bcase (!(domainPS r.d)) (K (.int .i64 (10 : Int)) []) ((r.p.size ≤ 1000000) ∧ (bcase (!(pathPS r.p)) (K (.int .i64 (10 : Int)) []) (bcase (!r.b) (K (.int .i64 (10 : Int)) []) (K (.int .i64 (10 : Int)) [])))))))) ((r.d.size < 2147483648) ∧ (bcase (toldS r.d) (bcase (!(r.d.toList == (ByteArray.mk #[105, 110, 100, 101, 120, 46, 100, 111, 99, 107, 101, 114, 46, 105, 111]).toList)) (bcase (!(r.d.toList == (ByteArray.mk #[100, 111, 99, 107, 101, 114, 46, 105, 111]).toList)) ((r.d.size ≤ 1000000) ∧ (bcase (!(domainPS r.d)) (K (.int .i64 (10 : Int)) []) ((r.p.size ≤ 1000000) ∧ (bcase (!(pathPS r.p)) (K (.int .i64 (10 : Int)) []) (bcase (!r.b) (K (.int .i64 (10 : Int)) []) (bcase (!(eqD r.x zerosI)) (K (.int .i64 (10 : Int)) []) ((RefOk (RefT.mk r.d r.p r.t (decI (digL r.x)) r.b)) ∧ (bcase (decide ((↑(textS tellS (RefT.mk r.d r.p r.t (decI (digL r.x)) r.b)).size : Int) > (200 : Int))) (K (.int .i64 (10 : Int)) []) (K (.int .i64 (0 : Int)) []))))))))) (((ByteArray.mk #[47]) = (ByteArray.mk #[47])) ∧ ((r.d.size ≤ 1000000) ∧ (bcase (!(domainPS r.d)) (K (.int .i64 (10 : Int)) []) ((r.p.size ≤ 1000000) ∧ (bcase (!(pathPS r.p)) (K (.int .i64 (10 : Int)) []) (bcase (!r.b) (K (.int .i64 (10 : Int)) []) (bcase (!(eqD r.x zerosI)) (K (.int .i64 (10 : Int)) []) (bcase (!(decide ((0 : Int) ≤ (Lib.indexByte r.p.data.toList 47)))) (K (.int .i64 (10 : Int)) []) ((RefOk (RefT.mk r.d r.p r.t (decI (digL r.x)) r.b)) ∧ (bcase (decide ((↑(textS tellS (RefT.mk r.d r.p r.t (decI (digL r.x)) r.b)).size : Int) > (200 : Int))) (K (.int .i64 (10 : Int)) []) (K (.int .i64 (0 : Int)) [])))))))))))) ((r.d.size ≤ 1000000) ∧ (bcase (!(domainPS r.d)) (K (.int .i64 (10 : Int)) []) ((r.p.size ≤ 1000000) ∧ (bcase (!(pathPS r.p)) (K (.int .i64 (10 : Int)) []) (bcase (!r.b) (K (.int .i64 (10 : Int)) []) (bcase (!(eqD r.x zerosI)) (K (.int .i64 (10 : Int)) []) (K (.int .i64 (10 : Int)) [])))))))) ((r.d.size ≤ 1000000) ∧ (bcase (!(domainPS r.d)) (K (.int .i64 (10 : Int)) []) ((r.p.size ≤ 1000000) ∧ (bcase (!(pathPS r.p)) (K (.int .i64 (10 : Int)) []) (bcase (!r.b) (K (.int .i64 (10 : Int)) []) (bcase (!(eqD r.x zerosI)) (K (.int .i64 (10 : Int)) []) (K (.int .i64 (10 : Int)) [])))))))))) (bcase r.b ((r.d.size < 2147483648) ∧ (bcase (toldS r.d) (bcase (!(r.d.toList == (ByteArray.mk #[105, 110, 100, 101, 120, 46, 100, 111, 99, 107, 101, 114, 46, 105, 111]).toList)) (bcase (!(r.d.toList == (ByteArray.mk #[100, 111, 99, 107, 101, 114, 46, 105, 111]).toList)) ((r.d.size ≤ 1000000) ∧ (bcase (!(domainPS r.d)) (K (.int .i64 (10 : Int)) []) ((r.p.size ≤ 1000000) ∧ (bcase (!(pathPS r.p)) (K (.int .i64 (10 : Int)) []) (K (.int .i64 (10 : Int)) []))))) (((ByteArray.mk #[47]) = (ByteArray.mk #[47])) ∧ ((r.d.size ≤ 1000000) ∧ (bcase (!(domainPS r.d)) (K (.int .i64 (10 : Int)) []) ((r.p.size ≤ 1000000) ∧ (bcase (!(pathPS r.p)) (K (.int .i64 (10 : Int)) []) (K (.int .i64 (10 : Int)) []))))))) ((r.d.size ≤ 1000000) ∧ (bcase (!(domainPS r.d)) (K (.int .i64 (10 : Int)) []) ((r.p.size ≤ 1000000) ∧ (bcase (!(pathPS r.p)) (K (.int .i64 (10 : Int)) []) (K (.int .i64 (10 : Int)) [])))))) ((r.d.size ≤ 1000000) ∧ (bcase (!(domainPS r.d)) (K (.int .i64 (10 : Int)) []) ((r.p.size ≤ 1000000) ∧ (bcase (!(pathPS r.p)) (K (.int .i64 (10 : Int)) []) (K (.int .i64 (10 : Int)) []))))))) ((r.d.size < 2147483648) ∧ (bcase (toldS r.d) (bcase (!(r.d.toList == (ByteArray.mk #[105, 110, 100, 101, 120, 46, 100, 111, 99, 107, 101, 114, 46, 105, 111]).toList)) (bcase (!(r.d.toList == (ByteArray.mk #[100, 111, 99, 107, 101, 114, 46, 105, 111]).toList)) ((r.d.size ≤ 1000000) ∧ (bcase (!(domainPS r.d)) (K (.int .i64 (10 : Int)) []) ((r.p.size ≤ 1000000) ∧ (bcase (!(pathPS r.p)) (K (.int .i64 (10 : Int)) []) (K (.int .i64 (10 : Int)) []))))) (((ByteArray.mk #[47]) = (ByteArray.mk #[47])) ∧ ((r.d.size ≤ 1000000) ∧ (bcase (!(domainPS r.d)) (K (.int .i64 (10 : Int)) []) ((r.p.size ≤ 1000000) ∧ (bcase (!(pathPS r.p)) (K (.int .i64 (10 : Int)) []) (K (.int .i64 (10 : Int)) []))))))) ((r.d.size ≤ 1000000) ∧ (bcase (!(domainPS r.d)) (K (.int .i64 (10 : Int)) []) ((r.p.size ≤ 1000000) ∧ (bcase (!(pathPS r.p)) (K (.int .i64 (10 : Int)) []) (K (.int .i64 (10 : Int)) [])))))) ((r.d.size ≤ 1000000) ∧ (bcase (!(domainPS r.d)) (K (.int .i64 (10 : Int)) []) ((r.p.size ≤ 1000000) ∧ (bcase (!(pathPS r.p)) (K (.int .i64 (10 : Int)) []) (K (.int .i64 (10 : Int)) [])))))))))) (by kernel_rfl) ?_
      simp only [he]
      clear h1 hr hd he
      have hK := hK []
      simp only [checkS, taggedS, knownS, hasSlash, isS] at hK
      repeat' first | with_reducible exact trivial | with_reducible refine need_of (by first | first | with_reducible assumption | (simp only [List.length_cons, List.length_nil, Nat.zero_add, Nat.zero_lt_succ, decide_true, Bool.and_true, Bool.and_self]; done) | with_reducible exact pos_of (by assumption) | with_reducible exact pos_of' (by assumption) | omega | (simp only [ByteArray.size_append, sz1, decide_eq_true_eq, *]; omega) | decide | (simp only [Bool.and_true, Bool.and_eq_true, decide_eq_true_eq, ByteArray.size_extract, ByteArray.size_append, sz1, Int.toNat_natCast, List.getD_eq_getElem?_getD, beq_iff_eq, decide_eq_false_iff_not] at *; omega) | ((repeat' constructor) <;> first | rfl | first | with_reducible assumption | (simp only [List.length_cons, List.length_nil, Nat.zero_add, Nat.zero_lt_succ, decide_true, Bool.and_true, Bool.and_self]; done) | with_reducible exact pos_of (by assumption) | with_reducible exact pos_of' (by assumption) | omega | (simp only [ByteArray.size_append, sz1, decide_eq_true_eq, *]; omega) | decide | (simp only [Bool.and_true, Bool.and_eq_true, decide_eq_true_eq, ByteArray.size_extract, ByteArray.size_append, sz1, Int.toNat_natCast, List.getD_eq_getElem?_getD, beq_iff_eq, decide_eq_false_iff_not] at *; omega))) ?_ | with_reducible refine And.intro (by first | first | with_reducible assumption | (simp only [List.length_cons, List.length_nil, Nat.zero_add, Nat.zero_lt_succ, decide_true, Bool.and_true, Bool.and_self]; done) | with_reducible exact pos_of (by assumption) | with_reducible exact pos_of' (by assumption) | omega | (simp only [ByteArray.size_append, sz1, decide_eq_true_eq, *]; omega) | decide | (simp only [Bool.and_true, Bool.and_eq_true, decide_eq_true_eq, ByteArray.size_extract, ByteArray.size_append, sz1, Int.toNat_natCast, List.getD_eq_getElem?_getD, beq_iff_eq, decide_eq_false_iff_not] at *; omega) | ((repeat' constructor) <;> first | rfl | first | with_reducible assumption | (simp only [List.length_cons, List.length_nil, Nat.zero_add, Nat.zero_lt_succ, decide_true, Bool.and_true, Bool.and_self]; done) | with_reducible exact pos_of (by assumption) | with_reducible exact pos_of' (by assumption) | omega | (simp only [ByteArray.size_append, sz1, decide_eq_true_eq, *]; omega) | decide | (simp only [Bool.and_true, Bool.and_eq_true, decide_eq_true_eq, ByteArray.size_extract, ByteArray.size_append, sz1, Int.toNat_natCast, List.getD_eq_getElem?_getD, beq_iff_eq, decide_eq_false_iff_not] at *; omega))) ?_ | with_reducible refine bcase_not ?_ | with_reducible refine bcase_t rfl ?_ | with_reducible refine bcase_f rfl ?_ | with_reducible refine bcase_t (by assumption) ?_ | with_reducible refine bcase_f (by assumption) ?_ | (with_reducible refine bcase_of (fun hx => ?_) (fun hx => ?_) <;> try simp only [hx, bcase_tt, bcase_ff, Int.toNat_natCast, Bool.not_true, Bool.not_false, cond_true, cond_false, Bool.and_true, Bool.and_false, Bool.true_and, Bool.false_and, Bool.or_true, Bool.or_false, Bool.true_or, Bool.false_or] at hK)
      all_goals exact hK
    · cases h
  · cases h
def ptextS (r : RefT) : ByteArray := bif checkS r != 0 then ⟨#[]⟩ else textS tellS r
theorem pText_ok : PureOk Tryd.prog 11 (refPG fun r => .string (ptextS r)) := by
  refine .of_run (call := callOf [(15, pureS (refPG fun r => .int .i64 (checkS r))), (26, pureS textG)]) (hint := hints 11) (tb := noTab) hm (callOf_cons check_ok.spec (callOf_cons ptext_ok.spec callOf_nil)) Tryd.func11 (by kernel_rfl) rfl (by kernel_rfl) (by repeat' first | exact trivial | constructor |  (intro _ h; cases h)) fun args c r h => ?_
  unfold refPG at h
  split at h
  · rename_i l
    split at h
    · rename_i r hr
      cases h
      refine ⟨by show (plainL l && true) = true; rw [plain_ref hr]; rfl, fun hs => ⟨rfl, 1, fun K hK => ?_⟩⟩
      obtain ⟨h1, h2⟩ := isRef_some hr
      rw [h1]
      have hd := decI_digL h2
      have he : RefT.mk r.d r.p r.t (decI (digL r.x)) r.b = r := by rw [hd]
      have hok := hs.ok
      have hK := hK []
      simp only [ptextS] at hK
      refine to (R := (RefP (RefT.mk r.d r.p r.t (decI (digL r.x)) r.b)) ∧ (bcase ((checkS (RefT.mk r.d r.p r.t (decI (digL r.x)) r.b)) != (0 : Int)) (K (.string (ByteArray.mk #[])) []) ((RefOk (RefT.mk r.d r.p r.t (decI (digL r.x)) r.b)) ∧ (K (.string (textS tellS (RefT.mk r.d r.p r.t (decI (digL r.x)) r.b))) [])))) (by kernel_rfl) ?_
      simp only [he]
      clear h1 hr hd he
      repeat' first | with_reducible exact trivial | with_reducible refine need_of (by first | first | with_reducible assumption | (simp only [List.length_cons, List.length_nil, Nat.zero_add, Nat.zero_lt_succ, decide_true, Bool.and_true, Bool.and_self]; done) | with_reducible exact pos_of (by assumption) | with_reducible exact pos_of' (by assumption) | omega | (simp only [ByteArray.size_append, sz1, decide_eq_true_eq, *]; omega) | decide | (simp only [Bool.and_true, Bool.and_eq_true, decide_eq_true_eq, ByteArray.size_extract, ByteArray.size_append, sz1, Int.toNat_natCast, List.getD_eq_getElem?_getD, beq_iff_eq, decide_eq_false_iff_not] at *; omega) | ((repeat' constructor) <;> first | rfl | first | with_reducible assumption | (simp only [List.length_cons, List.length_nil, Nat.zero_add, Nat.zero_lt_succ, decide_true, Bool.and_true, Bool.and_self]; done) | with_reducible exact pos_of (by assumption) | with_reducible exact pos_of' (by assumption) | omega | (simp only [ByteArray.size_append, sz1, decide_eq_true_eq, *]; omega) | decide | (simp only [Bool.and_true, Bool.and_eq_true, decide_eq_true_eq, ByteArray.size_extract, ByteArray.size_append, sz1, Int.toNat_natCast, List.getD_eq_getElem?_getD, beq_iff_eq, decide_eq_false_iff_not] at *; omega))) ?_ | with_reducible refine And.intro (by first | first | with_reducible assumption | (simp only [List.length_cons, List.length_nil, Nat.zero_add, Nat.zero_lt_succ, decide_true, Bool.and_true, Bool.and_self]; done) | with_reducible exact pos_of (by assumption) | with_reducible exact pos_of' (by assumption) | omega | (simp only [ByteArray.size_append, sz1, decide_eq_true_eq, *]; omega) | decide | (simp only [Bool.and_true, Bool.and_eq_true, decide_eq_true_eq, ByteArray.size_extract, ByteArray.size_append, sz1, Int.toNat_natCast, List.getD_eq_getElem?_getD, beq_iff_eq, decide_eq_false_iff_not] at *; omega) | ((repeat' constructor) <;> first | rfl | first | with_reducible assumption | (simp only [List.length_cons, List.length_nil, Nat.zero_add, Nat.zero_lt_succ, decide_true, Bool.and_true, Bool.and_self]; done) | with_reducible exact pos_of (by assumption) | with_reducible exact pos_of' (by assumption) | omega | (simp only [ByteArray.size_append, sz1, decide_eq_true_eq, *]; omega) | decide | (simp only [Bool.and_true, Bool.and_eq_true, decide_eq_true_eq, ByteArray.size_extract, ByteArray.size_append, sz1, Int.toNat_natCast, List.getD_eq_getElem?_getD, beq_iff_eq, decide_eq_false_iff_not] at *; omega))) ?_ | with_reducible refine bcase_not ?_ | with_reducible refine bcase_t rfl ?_ | with_reducible refine bcase_f rfl ?_ | with_reducible refine bcase_t (by assumption) ?_ | with_reducible refine bcase_f (by assumption) ?_ | (with_reducible refine bcase_of (fun hx => ?_) (fun hx => ?_) <;> try simp only [hx, bcase_tt, bcase_ff, Int.toNat_natCast, Bool.not_true, Bool.not_false, cond_true, cond_false, Bool.and_true, Bool.and_false, Bool.true_and, Bool.false_and, Bool.or_true, Bool.or_false, Bool.true_or, Bool.false_or] at hK)
      all_goals exact hK
    · cases h
  · cases h
end Go.Proofs.YtofcjkbgieenlaaDoor.PM

namespace Go.Proofs.YtofcjkbgieenlaaDoor.PM
open Go Go.Proofs Go.RowKit
set_option maxRecDepth 100000
set_option linter.unusedVariables false
set_option linter.unusedSimpArgs false

abbrev hubT : ByteArray := (ByteArray.mk #[100, 111, 99, 107, 101, 114, 46, 105, 111, 47])
abbrev libT : ByteArray := (ByteArray.mk #[108, 105, 98, 114, 97, 114, 121, 47])
abbrev tpS (s t : ByteArray) : ByteArray := ⟨(Lib.trimPrefix s.data.toList t.data.toList).toArray⟩
abbrev hpS (s t : ByteArray) : Bool := Lib.hasPrefix s.data.toList t.data.toList
def shortOf (s p : ByteArray) : ByteArray :=
  bif !hpS s hubT then s else
  bif hpS p libT && !hasSlash (tpS p libT) then (tpS s hubT).extract 8 (tpS s hubT).size else
  bif !isS (splitD p) [] then s else tpS s hubT
def pshortS (r : RefT) : ByteArray := bif checkS r != 0 then ⟨#[]⟩ else shortOf (textS tellS (untag r)) r.p
theorem short_room (r : RefT) (h1 : hpS (textS tellS r) hubT = true) (h2 : hpS r.p libT = true) : 8 ≤ (tpS (textS tellS r) hubT).size := by
  have hmin := textS_min tellS r
  have e1 := (List.isPrefixOf_iff_prefix.1 h1)
  have e2 := (List.isPrefixOf_iff_prefix.1 h2).length_le
  have p8 : (libT.data.toList).length = 8 := rfl
  have hp : r.p.data.toList.length = r.p.size := li_size r.p
  have h10 : (hubT.data.toList).length = 10 := rfl
  have hd : 9 ≤ r.d.size := by
    apply Classical.byContradiction
    intro hlt
    have hpre : ∃ z, li (textS tellS r) = li r.d ++ 47 :: z := by
      unfold textS
      cases isS r.t [] <;> cases r.b <;> simp only [Bool.not_false, Bool.not_true, cond_true, cond_false, li_append, List.append_assoc] <;> exact ⟨_, rfl⟩
    obtain ⟨z, hz⟩ := hpre
    obtain ⟨y, hy⟩ := e1
    have hy' : hubT.data.toList ++ y = li r.d ++ 47 :: z := hy.trans hz
    have hi := congrArg (fun l => l[r.d.size]?) hy'
    have hl : (li r.d).length = r.d.size := li_size r.d
    simp only at hi
    rw [List.getElem?_append_left (by rw [h10]; omega), List.getElem?_append_right (by omega), hl, Nat.sub_self] at hi
    have all : ∀ n : Fin 9, (hubT.data.toList)[n.val]? ≠ some 47 := by decide
    exact all ⟨r.d.size, by omega⟩ (by simpa using hi)
  show 8 ≤ (ByteArray.mk _).size
  rw [mk_size]
  unfold Lib.trimPrefix
  rw [if_pos h1, List.length_drop, h10]
  have : (textS tellS r).data.toList.length = (textS tellS r).size := li_size _
  omega
theorem need8 {r : RefT} (h1 : hpS (textS tellS r) hubT = true) (h2 : hpS r.p libT = true) : (decide ((8 : Int) ≤ ((tpS (textS tellS r) hubT).size : Int)) && decide (((tpS (textS tellS r) hubT).size : Int) ≤ ((tpS (textS tellS r) hubT).size : Int))) = true := by
  have := short_room r h1 h2
  simp only [Bool.and_eq_true, decide_eq_true_eq]
  omega
theorem tpS_size (s t : ByteArray) : (tpS s t).size ≤ s.size := by
  show (ByteArray.mk _).size ≤ _
  rw [mk_size]
  unfold Lib.trimPrefix
  have : s.data.toList.length = s.size := li_size s
  split
  · rw [List.length_drop]; omega
  · omega
theorem short_ok : PureOk Tryd.prog 13 (refPG fun r => .string (pshortS r)) := by
  refine .of_run (call := callOf [(15, pureS (refPG fun r => .int .i64 (checkS r))), (26, pureS textG), (28, pureS (two (fun s t => True) fun s t => .tuple #[.string ⟨(Lib.trimPrefix s.data.toList t.data.toList).toArray⟩, .bool (Lib.hasPrefix s.data.toList t.data.toList)])), (21, pureS (two (fun s t => t = ⟨#[47]⟩) fun s t => .bool (decide (0 ≤ Lib.indexByte s.data.toList 47)))), (22, pureS splitG)]) (hint := hints 13) (tb := noTab) hm (callOf_cons check_ok.spec (callOf_cons ptext_ok.spec (callOf_cons cutPrefix_ok.spec (callOf_cons contains_ok.spec (callOf_cons split_ok.spec callOf_nil))))) Tryd.func13 (by kernel_rfl) rfl (by kernel_rfl) (by repeat' first | exact trivial | constructor |  (intro _ h; cases h)) fun args c r h => ?_
  unfold refPG at h
  split at h
  · rename_i l
    split at h
    · rename_i r hr
      cases h
      refine ⟨by show (plainL l && true) = true; rw [plain_ref hr]; rfl, fun hs => ⟨rfl, 1, fun K hK => ?_⟩⟩
      obtain ⟨h1, h2⟩ := isRef_some hr
      rw [h1]
      have hd := decI_digL h2
      have he : RefT.mk r.d r.p r.t (decI (digL r.x)) r.b = r := by rw [hd]
      have hok := hs.ok
      have hK := hK []
      refine to (R := (RefP (RefT.mk r.d r.p r.t (decI (digL r.x)) r.b)) ∧ (bcase ((checkS (RefT.mk r.d r.p r.t (decI (digL r.x)) r.b)) != (0 : Int)) (K (.string (ByteArray.mk #[])) []) (bcase (r.t.toList == (ByteArray.mk #[108, 97, 116, 101, 115, 116]).toList) (bcase (!r.b) ((RefOk (RefT.mk r.d r.p (ByteArray.mk #[]) (decI (digL r.x)) r.b)) ∧ (True ∧ (bcase (!(Lib.hasPrefix (textS tellS (RefT.mk r.d r.p (ByteArray.mk #[]) (decI (digL r.x)) r.b)).data.toList (ByteArray.mk #[100, 111, 99, 107, 101, 114, 46, 105, 111, 47]).data.toList)) (K (.string (textS tellS (RefT.mk r.d r.p (ByteArray.mk #[]) (decI (digL r.x)) r.b))) []) (True ∧ (bcase (Lib.hasPrefix r.p.data.toList (ByteArray.mk #[108, 105, 98, 114, 97, 114, 121, 47]).data.toList) (((ByteArray.mk #[47]) = (ByteArray.mk #[47])) ∧ (bcase (!(decide ((0 : Int) ≤ (Lib.indexByte (ByteArray.mk (Lib.trimPrefix r.p.data.toList (ByteArray.mk #[108, 105, 98, 114, 97, 114, 121, 47]).data.toList).toArray).data.toList 47)))) (need ((decide ((8 : Int) ≤ (↑(ByteArray.mk (Lib.trimPrefix (textS tellS (RefT.mk r.d r.p (ByteArray.mk #[]) (decI (digL r.x)) r.b)).data.toList (ByteArray.mk #[100, 111, 99, 107, 101, 114, 46, 105, 111, 47]).data.toList).toArray).size : Int))) && (decide ((↑(ByteArray.mk (Lib.trimPrefix (textS tellS (RefT.mk r.d r.p (ByteArray.mk #[]) (decI (digL r.x)) r.b)).data.toList (ByteArray.mk #[100, 111, 99, 107, 101, 114, 46, 105, 111, 47]).data.toList).toArray).size : Int) ≤ (↑(ByteArray.mk (Lib.trimPrefix (textS tellS (RefT.mk r.d r.p (ByteArray.mk #[]) (decI (digL r.x)) r.b)).data.toList (ByteArray.mk #[100, 111, 99, 107, 101, 114, 46, 105, 111, 47]).data.toList).toArray).size : Int)))) (K (.string ((ByteArray.mk (Lib.trimPrefix (textS tellS (RefT.mk r.d r.p (ByteArray.mk #[]) (decI (digL r.x)) r.b)).data.toList (ByteArray.mk #[100, 111, 99, 107, 101, 114, 46, 105, 111, 47]).data.toList).toArray).extract 8 (↑(ByteArray.mk (Lib.trimPrefix (textS tellS (RefT.mk r.d r.p (ByteArray.mk #[]) (decI (digL r.x)) r.b)).data.toList (ByteArray.mk #[100, 111, 99, 107, 101, 114, 46, 105, 111, 47]).data.toList).toArray).size : Int).toNat)) [])) ((r.p.size < 2147483648) ∧ (bcase (!((splitD r.p).toList == (ByteArray.mk #[]).toList)) (K (.string (textS tellS (RefT.mk r.d r.p (ByteArray.mk #[]) (decI (digL r.x)) r.b))) []) (K (.string (ByteArray.mk (Lib.trimPrefix (textS tellS (RefT.mk r.d r.p (ByteArray.mk #[]) (decI (digL r.x)) r.b)).data.toList (ByteArray.mk #[100, 111, 99, 107, 101, 114, 46, 105, 111, 47]).data.toList).toArray)) []))))) ((r.p.size < 2147483648) ∧ (bcase (!((splitD r.p).toList == (ByteArray.mk #[]).toList)) (K (.string (textS tellS (RefT.mk r.d r.p (ByteArray.mk #[]) (decI (digL r.x)) r.b))) []) (K (.string (ByteArray.mk (Lib.trimPrefix (textS tellS (RefT.mk r.d r.p (ByteArray.mk #[]) (decI (digL r.x)) r.b)).data.toList (ByteArray.mk #[100, 111, 99, 107, 101, 114, 46, 105, 111, 47]).data.toList).toArray)) [])))))))) ((RefOk (RefT.mk r.d r.p r.t (decI (digL r.x)) r.b)) ∧ (True ∧ (bcase (!(Lib.hasPrefix (textS tellS (RefT.mk r.d r.p r.t (decI (digL r.x)) r.b)).data.toList (ByteArray.mk #[100, 111, 99, 107, 101, 114, 46, 105, 111, 47]).data.toList)) (K (.string (textS tellS (RefT.mk r.d r.p r.t (decI (digL r.x)) r.b))) []) (True ∧ (bcase (Lib.hasPrefix r.p.data.toList (ByteArray.mk #[108, 105, 98, 114, 97, 114, 121, 47]).data.toList) (((ByteArray.mk #[47]) = (ByteArray.mk #[47])) ∧ (bcase (!(decide ((0 : Int) ≤ (Lib.indexByte (ByteArray.mk (Lib.trimPrefix r.p.data.toList (ByteArray.mk #[108, 105, 98, 114, 97, 114, 121, 47]).data.toList).toArray).data.toList 47)))) (need ((decide ((8 : Int) ≤ (↑(ByteArray.mk (Lib.trimPrefix (textS tellS (RefT.mk r.d r.p r.t (decI (digL r.x)) r.b)).data.toList (ByteArray.mk #[100, 111, 99, 107, 101, 114, 46, 105, 111, 47]).data.toList).toArray).size : Int))) && (decide ((↑(ByteArray.mk (Lib.trimPrefix (textS tellS (RefT.mk r.d r.p r.t (decI (digL r.x)) r.b)).data.toList (ByteArray.mk #[100, 111, 99, 107, 101, 114, 46, 105, 111, 47]).data.toList).toArray).size : Int) ≤ (↑(ByteArray.mk (Lib.trimPrefix (textS tellS (RefT.mk r.d r.p r.t (decI (digL r.x)) r.b)).data.toList (ByteArray.mk #[100, 111, 99, 107, 101, 114, 46, 105, 111, 47]).data.toList).toArray).size : Int)))) (K (.string ((ByteArray.mk (Lib.trimPrefix (textS tellS (RefT.mk r.d r.p r.t (decI (digL r.x)) r.b)).data.toList (ByteArray.mk #[100, 111, 99, 107, 101, 114, 46, 105, 111, 47]).data.toList).toArray).extract 8 (↑(ByteArray.mk (Lib.trimPrefix (textS tellS (RefT.mk r.d r.p r.t (decI (digL r.x)) r.b)).data.toList (ByteArray.mk #[100, 111, 99, 107, 101, 114, 46, 105, 111, 47]).data.toList).toArray).size : Int).toNat)) [])) ((r.p.size < 2147483648) ∧ (bcase (!((splitD r.p).toList == (ByteArray.mk #[]).toList)) (K (.string (textS tellS (RefT.mk r.d r.p r.t (decI (digL r.x)) r.b))) []) (K (.string (ByteArray.mk (Lib.trimPrefix (textS tellS (RefT.mk r.d r.p r.t (decI (digL r.x)) r.b)).data.toList (ByteArray.mk #[100, 111, 99, 107, 101, 114, 46, 105, 111, 47]).data.toList).toArray)) []))))) ((r.p.size < 2147483648) ∧ (bcase (!((splitD r.p).toList == (ByteArray.mk #[]).toList)) (K (.string (textS tellS (RefT.mk r.d r.p r.t (decI (digL r.x)) r.b))) []) (K (.string (ByteArray.mk (Lib.trimPrefix (textS tellS (RefT.mk r.d r.p r.t (decI (digL r.x)) r.b)).data.toList (ByteArray.mk #[100, 111, 99, 107, 101, 114, 46, 105, 111, 47]).data.toList).toArray)) []))))))))) ((RefOk (RefT.mk r.d r.p r.t (decI (digL r.x)) r.b)) ∧ (True ∧ (bcase (!(Lib.hasPrefix (textS tellS (RefT.mk r.d r.p r.t (decI (digL r.x)) r.b)).data.toList (ByteArray.mk #[100, 111, 99, 107, 101, 114, 46, 105, 111, 47]).data.toList)) (K (.string (textS tellS (RefT.mk r.d r.p r.t (decI (digL r.x)) r.b))) []) (True ∧ (bcase (Lib.hasPrefix r.p.data.toList (ByteArray.mk #[108, 105, 98, 114, 97, 114, 121, 47]).data.toList) (((ByteArray.mk #[47]) = (ByteArray.mk #[47])) ∧ (bcase (!(decide ((0 : Int) ≤ (Lib.indexByte (ByteArray.mk (Lib.trimPrefix r.p.data.toList (ByteArray.mk #[108, 105, 98, 114, 97, 114, 121, 47]).data.toList).toArray).data.toList 47)))) (need ((decide ((8 : Int) ≤ (↑(ByteArray.mk (Lib.trimPrefix (textS tellS (RefT.mk r.d r.p r.t (decI (digL r.x)) r.b)).data.toList (ByteArray.mk #[100, 111, 99, 107, 101, 114, 46, 105, 111, 47]).data.toList).toArray).size : Int))) && (decide ((↑(ByteArray.mk (Lib.trimPrefix (textS tellS (RefT.mk r.d r.p r.t (decI (digL r.x)) r.b)).data.toList (ByteArray.mk #[100, 111, 99, 107, 101, 114, 46, 105, 111, 47]).data.toList).toArray).size : Int) ≤ (↑(ByteArray.mk (Lib.trimPrefix (textS tellS (RefT.mk r.d r.p r.t (decI (digL r.x)) r.b)).data.toList (ByteArray.mk #[100, 111, 99, 107, 101, 114, 46, 105, 111, 47]).data.toList).toArray).size : Int)))) (K (.string ((ByteArray.mk (Lib.trimPrefix (textS tellS (RefT.mk r.d r.p r.t (decI (digL r.x)) r.b)).data.toList (ByteArray.mk #[100, 111, 99, 107, 101, 114, 46, 105, 111, 47]).data.toList).toArray).extract 8 (↑(ByteArray.mk (Lib.trimPrefix (textS tellS (RefT.mk r.d r.p r.t (decI (digL r.x)) r.b)).data.toList (ByteArray.mk #[100, 111, 99, 107, 101, 114, 46, 105, 111, 47]).data.toList).toArray).size : Int).toNat)) [])) ((r.p.size < 2147483648) ∧ (bcase (!((splitD r.p).toList == (ByteArray.mk #[]).toList)) (K (.string (textS tellS (RefT.mk r.d r.p r.t (decI (digL r.x)) r.b))) []) (K (.string (ByteArray.mk (Lib.trimPrefix (textS tellS (RefT.mk r.d r.p r.t (decI (digL r.x)) r.b)).data.toList (ByteArray.mk #[100, 111, 99, 107, 101, 114, 46, 105, 111, 47]).data.toList).toArray)) []))))) ((r.p.size < 2147483648) ∧ (bcase (!((splitD r.p).toList == (ByteArray.mk #[]).toList)) (K (.string (textS tellS (RefT.mk r.d r.p r.t (decI (digL r.x)) r.b))) []) (K (.string (ByteArray.mk (Lib.trimPrefix (textS tellS (RefT.mk r.d r.p r.t (decI (digL r.x)) r.b)).data.toList (ByteArray.mk #[100, 111, 99, 107, 101, 114, 46, 105, 111, 47]).data.toList).toArray)) []))))))))))) (by kernel_rfl) ?_
      obtain ⟨⟨k1, k2, k3, k4, k5⟩, k6, k7⟩ := hs
      have hs : RefP r := ⟨⟨k1, k2, k3, k4, k5⟩, k6, k7⟩
      have z0 : (ByteArray.mk #[]).size < 2 ^ 30 := by decide
      have hok2 : RefOk ⟨r.d, r.p, ⟨#[]⟩, r.x, r.b⟩ := ⟨k1, k2, z0, k4, k5⟩
      have he' : RefT.mk r.d r.p r.t r.x r.b = r := rfl
      simp only [he, hd, he']
      clear h1 hr hd he he'
      have eb : ∀ b : Bool, b = true ∨ b = false := fun b => by cases b <;> simp
      rcases eb (r.t.toList == (ByteArray.mk #[108, 97, 116, 101, 115, 116]).toList) with hL | hL
      · rcases eb r.b with hb | hb
        · have hu : untag r = r := by unfold untag; rw [show isS r.t [108, 97, 116, 101, 115, 116] = true from hL, hb]; rfl
          simp only [pshortS, hu] at hK
          clear hu
          simp only [shortOf, hasSlash, isS] at hK
          repeat' first | with_reducible refine need_of (need8 (by assumption) (by assumption)) ?_ | with_reducible exact trivial | with_reducible refine need_of (by first | first | with_reducible assumption | (simp only [List.length_cons, List.length_nil, Nat.zero_add, Nat.zero_lt_succ, decide_true, Bool.and_true, Bool.and_self]; done) | with_reducible exact pos_of (by assumption) | with_reducible exact pos_of' (by assumption) | omega | (simp only [ByteArray.size_append, sz1, decide_eq_true_eq, *]; omega) | decide | (simp only [Bool.and_true, Bool.and_eq_true, decide_eq_true_eq, ByteArray.size_extract, ByteArray.size_append, sz1, Int.toNat_natCast, List.getD_eq_getElem?_getD, beq_iff_eq, decide_eq_false_iff_not] at *; omega) | ((repeat' constructor) <;> first | rfl | first | with_reducible assumption | (simp only [List.length_cons, List.length_nil, Nat.zero_add, Nat.zero_lt_succ, decide_true, Bool.and_true, Bool.and_self]; done) | with_reducible exact pos_of (by assumption) | with_reducible exact pos_of' (by assumption) | omega | (simp only [ByteArray.size_append, sz1, decide_eq_true_eq, *]; omega) | decide | (simp only [Bool.and_true, Bool.and_eq_true, decide_eq_true_eq, ByteArray.size_extract, ByteArray.size_append, sz1, Int.toNat_natCast, List.getD_eq_getElem?_getD, beq_iff_eq, decide_eq_false_iff_not] at *; omega))) ?_ | with_reducible refine And.intro (by first | first | with_reducible assumption | (simp only [List.length_cons, List.length_nil, Nat.zero_add, Nat.zero_lt_succ, decide_true, Bool.and_true, Bool.and_self]; done) | with_reducible exact pos_of (by assumption) | with_reducible exact pos_of' (by assumption) | omega | (simp only [ByteArray.size_append, sz1, decide_eq_true_eq, *]; omega) | decide | (simp only [Bool.and_true, Bool.and_eq_true, decide_eq_true_eq, ByteArray.size_extract, ByteArray.size_append, sz1, Int.toNat_natCast, List.getD_eq_getElem?_getD, beq_iff_eq, decide_eq_false_iff_not] at *; omega) | ((repeat' constructor) <;> first | rfl | first | with_reducible assumption | (simp only [List.length_cons, List.length_nil, Nat.zero_add, Nat.zero_lt_succ, decide_true, Bool.and_true, Bool.and_self]; done) | with_reducible exact pos_of (by assumption) | with_reducible exact pos_of' (by assumption) | omega | (simp only [ByteArray.size_append, sz1, decide_eq_true_eq, *]; omega) | decide | (simp only [Bool.and_true, Bool.and_eq_true, decide_eq_true_eq, ByteArray.size_extract, ByteArray.size_append, sz1, Int.toNat_natCast, List.getD_eq_getElem?_getD, beq_iff_eq, decide_eq_false_iff_not] at *; omega))) ?_ | with_reducible refine bcase_not ?_ | with_reducible refine bcase_t rfl ?_ | with_reducible refine bcase_f rfl ?_ | with_reducible refine bcase_t (by assumption) ?_ | with_reducible refine bcase_f (by assumption) ?_ | (with_reducible refine bcase_of (fun hx => ?_) (fun hx => ?_) <;> try simp only [hx, bcase_tt, bcase_ff, Int.toNat_natCast, Bool.not_true, Bool.not_false, cond_true, cond_false, Bool.and_true, Bool.and_false, Bool.true_and, Bool.false_and, Bool.or_true, Bool.or_false, Bool.true_or, Bool.false_or] at hK)
          all_goals (try simp only [Int.toNat_natCast])
          all_goals exact hK
        · have hu : untag r = ⟨r.d, r.p, ⟨#[]⟩, r.x, r.b⟩ := by unfold untag; rw [show isS r.t [108, 97, 116, 101, 115, 116] = true from hL, hb]; rfl
          simp only [pshortS, hu] at hK
          clear hu
          simp only [shortOf, hasSlash, isS] at hK
          repeat' first | with_reducible refine need_of (need8 (by assumption) (by assumption)) ?_ | with_reducible exact trivial | with_reducible refine need_of (by first | first | with_reducible assumption | (simp only [List.length_cons, List.length_nil, Nat.zero_add, Nat.zero_lt_succ, decide_true, Bool.and_true, Bool.and_self]; done) | with_reducible exact pos_of (by assumption) | with_reducible exact pos_of' (by assumption) | omega | (simp only [ByteArray.size_append, sz1, decide_eq_true_eq, *]; omega) | decide | (simp only [Bool.and_true, Bool.and_eq_true, decide_eq_true_eq, ByteArray.size_extract, ByteArray.size_append, sz1, Int.toNat_natCast, List.getD_eq_getElem?_getD, beq_iff_eq, decide_eq_false_iff_not] at *; omega) | ((repeat' constructor) <;> first | rfl | first | with_reducible assumption | (simp only [List.length_cons, List.length_nil, Nat.zero_add, Nat.zero_lt_succ, decide_true, Bool.and_true, Bool.and_self]; done) | with_reducible exact pos_of (by assumption) | with_reducible exact pos_of' (by assumption) | omega | (simp only [ByteArray.size_append, sz1, decide_eq_true_eq, *]; omega) | decide | (simp only [Bool.and_true, Bool.and_eq_true, decide_eq_true_eq, ByteArray.size_extract, ByteArray.size_append, sz1, Int.toNat_natCast, List.getD_eq_getElem?_getD, beq_iff_eq, decide_eq_false_iff_not] at *; omega))) ?_ | with_reducible refine And.intro (by first | first | with_reducible assumption | (simp only [List.length_cons, List.length_nil, Nat.zero_add, Nat.zero_lt_succ, decide_true, Bool.and_true, Bool.and_self]; done) | with_reducible exact pos_of (by assumption) | with_reducible exact pos_of' (by assumption) | omega | (simp only [ByteArray.size_append, sz1, decide_eq_true_eq, *]; omega) | decide | (simp only [Bool.and_true, Bool.and_eq_true, decide_eq_true_eq, ByteArray.size_extract, ByteArray.size_append, sz1, Int.toNat_natCast, List.getD_eq_getElem?_getD, beq_iff_eq, decide_eq_false_iff_not] at *; omega) | ((repeat' constructor) <;> first | rfl | first | with_reducible assumption | (simp only [List.length_cons, List.length_nil, Nat.zero_add, Nat.zero_lt_succ, decide_true, Bool.and_true, Bool.and_self]; done) | with_reducible exact pos_of (by assumption) | with_reducible exact pos_of' (by assumption) | omega | (simp only [ByteArray.size_append, sz1, decide_eq_true_eq, *]; omega) | decide | (simp only [Bool.and_true, Bool.and_eq_true, decide_eq_true_eq, ByteArray.size_extract, ByteArray.size_append, sz1, Int.toNat_natCast, List.getD_eq_getElem?_getD, beq_iff_eq, decide_eq_false_iff_not] at *; omega))) ?_ | with_reducible refine bcase_not ?_ | with_reducible refine bcase_t rfl ?_ | with_reducible refine bcase_f rfl ?_ | with_reducible refine bcase_t (by assumption) ?_ | with_reducible refine bcase_f (by assumption) ?_ | (with_reducible refine bcase_of (fun hx => ?_) (fun hx => ?_) <;> try simp only [hx, bcase_tt, bcase_ff, Int.toNat_natCast, Bool.not_true, Bool.not_false, cond_true, cond_false, Bool.and_true, Bool.and_false, Bool.true_and, Bool.false_and, Bool.or_true, Bool.or_false, Bool.true_or, Bool.false_or] at hK)
          all_goals (try simp only [Int.toNat_natCast])
          all_goals exact hK
      · have hu : untag r = r := by unfold untag; rw [show isS r.t [108, 97, 116, 101, 115, 116] = false from hL]; rfl
        simp only [pshortS, hu] at hK
        clear hu
        simp only [shortOf, hasSlash, isS] at hK
        repeat' first | with_reducible refine need_of (need8 (by assumption) (by assumption)) ?_ | with_reducible exact trivial | with_reducible refine need_of (by first | first | with_reducible assumption | (simp only [List.length_cons, List.length_nil, Nat.zero_add, Nat.zero_lt_succ, decide_true, Bool.and_true, Bool.and_self]; done) | with_reducible exact pos_of (by assumption) | with_reducible exact pos_of' (by assumption) | omega | (simp only [ByteArray.size_append, sz1, decide_eq_true_eq, *]; omega) | decide | (simp only [Bool.and_true, Bool.and_eq_true, decide_eq_true_eq, ByteArray.size_extract, ByteArray.size_append, sz1, Int.toNat_natCast, List.getD_eq_getElem?_getD, beq_iff_eq, decide_eq_false_iff_not] at *; omega) | ((repeat' constructor) <;> first | rfl | first | with_reducible assumption | (simp only [List.length_cons, List.length_nil, Nat.zero_add, Nat.zero_lt_succ, decide_true, Bool.and_true, Bool.and_self]; done) | with_reducible exact pos_of (by assumption) | with_reducible exact pos_of' (by assumption) | omega | (simp only [ByteArray.size_append, sz1, decide_eq_true_eq, *]; omega) | decide | (simp only [Bool.and_true, Bool.and_eq_true, decide_eq_true_eq, ByteArray.size_extract, ByteArray.size_append, sz1, Int.toNat_natCast, List.getD_eq_getElem?_getD, beq_iff_eq, decide_eq_false_iff_not] at *; omega))) ?_ | with_reducible refine And.intro (by first | first | with_reducible assumption | (simp only [List.length_cons, List.length_nil, Nat.zero_add, Nat.zero_lt_succ, decide_true, Bool.and_true, Bool.and_self]; done) | with_reducible exact pos_of (by assumption) | with_reducible exact pos_of' (by assumption) | omega | (simp only [ByteArray.size_append, sz1, decide_eq_true_eq, *]; omega) | decide | (simp only [Bool.and_true, Bool.and_eq_true, decide_eq_true_eq, ByteArray.size_extract, ByteArray.size_append, sz1, Int.toNat_natCast, List.getD_eq_getElem?_getD, beq_iff_eq, decide_eq_false_iff_not] at *; omega) | ((repeat' constructor) <;> first | rfl | first | with_reducible assumption | (simp only [List.length_cons, List.length_nil, Nat.zero_add, Nat.zero_lt_succ, decide_true, Bool.and_true, Bool.and_self]; done) | with_reducible exact pos_of (by assumption) | with_reducible exact pos_of' (by assumption) | omega | (simp only [ByteArray.size_append, sz1, decide_eq_true_eq, *]; omega) | decide | (simp only [Bool.and_true, Bool.and_eq_true, decide_eq_true_eq, ByteArray.size_extract, ByteArray.size_append, sz1, Int.toNat_natCast, List.getD_eq_getElem?_getD, beq_iff_eq, decide_eq_false_iff_not] at *; omega))) ?_ | with_reducible refine bcase_not ?_ | with_reducible refine bcase_t rfl ?_ | with_reducible refine bcase_f rfl ?_ | with_reducible refine bcase_t (by assumption) ?_ | with_reducible refine bcase_f (by assumption) ?_ | (with_reducible refine bcase_of (fun hx => ?_) (fun hx => ?_) <;> try simp only [hx, bcase_tt, bcase_ff, Int.toNat_natCast, Bool.not_true, Bool.not_false, cond_true, cond_false, Bool.and_true, Bool.and_false, Bool.true_and, Bool.false_and, Bool.or_true, Bool.or_false, Bool.true_or, Bool.false_or] at hK)
        all_goals (try simp only [Int.toNat_natCast])
        all_goals exact hK
    · cases h
  · cases h
end Go.Proofs.YtofcjkbgieenlaaDoor.PM

namespace Go.Proofs.YtofcjkbgieenlaaDoor.PM
open Go Go.Proofs Go.RowKit
set_option maxRecDepth 100000
set_option linter.unusedVariables false
set_option linter.unusedSimpArgs false

def lookH : LSpec
  | [(0, .string s), (7, .string rs), (8, .int .i64 last), (9, .int .i64 i)], [], K => (s = hexT ∧ i = last ∧ last = (rs.size : Int) - 1 ∧ 2 ≤ rs.size ∧ rs.size ≤ 4 ∧ 128 ≤ bt rs ((rs.size : Int) - 1)) ∧
      K .ret [(4, .int .i64 (-1))] []
  | _, _, _ => False
theorem hexT_low (i : Nat) (h : i < 16) : bt hexT (i : Int) < 128 := by
  have : ∀ n : Fin 16, bt hexT (n.val : Int) < 128 := by decide
  exact this ⟨i, h⟩
theorem hexT_none (a b : Nat) (c : Int) (h0 : 128 ≤ c) (h1 : c < 256) : Lib.indexByte (hexT.extract a b).data.toList c.toNat.toUInt8 < 0 := by
  have key : ∀ l : List UInt8, (∀ x ∈ l, x.toNat < 128) → Lib.indexByte l c.toNat.toUInt8 = -1 := fun l => by
    induction l with
    | nil => intro _; rfl
    | cons x l ih =>
      intro h
      have hx := h x List.mem_cons_self
      have e : Lib.indexByte (x :: l) c.toNat.toUInt8 = if x == c.toNat.toUInt8 then 0 else if Lib.indexByte l c.toNat.toUInt8 == -1 then -1 else Lib.indexByte l c.toNat.toUInt8 + 1 := rfl
      have hne : (x == c.toNat.toUInt8) = false := by
        rw [beq_eq_false_iff_ne]
        intro he
        have := congrArg UInt8.toNat he
        have h2 : (c.toNat.toUInt8).toNat = c.toNat % 256 := UInt8.toNat_ofNat'
        omega
      rw [e, hne, ih (fun y hy => h y (List.mem_cons_of_mem _ hy))]
      rfl
  have hall : ∀ x ∈ (hexT.extract a b).data.toList, x.toNat < 128 := fun x hx => by
    have h2 : x ∈ hexT.data.toList := by
      have e : (hexT.extract a b).data.toList = (hexT.data.toList.take b).drop a := li_extract _ _ _
      rw [e] at hx
      exact List.mem_of_mem_take (List.mem_of_mem_drop hx)
    have : ∀ x ∈ hexT.data.toList, x.toNat < 128 := by decide
    exact this x h2
  rw [key _ hall]
  decide
theorem lookH_round (rs : ByteArray) (h2 : 2 ≤ rs.size) (h4 : rs.size ≤ 4) (hl : 128 ≤ bt rs ((rs.size : Int) - 1)) (K : Kont) (hK : K .ret [(4, .int .i64 (-1))] []) :
    rnds Tryd.prog (callOf [(53, pureS indexByteG)]) (hints 37) tab37 1 (lp Tryd.f37 5) [(0, .string hexT), (7, .string rs), (8, .int .i64 ((rs.size : Int) - 1)), (9, .int .i64 ((rs.size : Int) - 1))] [] K := by
  have hw : IntKind.i64.wrap (((rs.size : Int) - 1) + 1) = ((rs.size : Int) - 1) + 1 := wrap_id (by omega) (by omega)
  have hs : hexT.size = 16 := rfl
  have hlow : bt hexT ((rs.size : Int) - 1) < 128 := by
    have := hexT_low (rs.size - 1) (by omega)
    rw [show ((rs.size - 1 : Nat) : Int) = (rs.size : Int) - 1 by omega] at this
    exact this
  have hhi : bt rs ((rs.size : Int) - 1) < 256 := by
    unfold bt
    have := (rs.data.toList.getD ((rs.size : Int) - 1).toNat 0).toNat_lt
    omega
  refine to (R := bcase (decide (((↑rs.size : Int) - (1 : Int)) < (↑16 : Int))) (need ((decide ((0 : Int) ≤ ((↑rs.size : Int) - (1 : Int)))) && (decide (((↑rs.size : Int) - (1 : Int)) < (↑16 : Int)))) (need ((decide ((0 : Int) ≤ ((↑rs.size : Int) - (1 : Int)))) && (decide (((↑rs.size : Int) - (1 : Int)) < (↑rs.size : Int)))) (bcase ((bt hexT ((↑rs.size : Int) - (1 : Int))) != (bt rs ((↑rs.size : Int) - (1 : Int)))) (need ((decide ((0 : Int) ≤ (IntKind.i64.wrap (((↑rs.size : Int) - (1 : Int)) + (1 : Int))))) && ((decide ((IntKind.i64.wrap (((↑rs.size : Int) - (1 : Int)) + (1 : Int))) ≤ (↑16 : Int))) && true)) (need ((decide ((0 : Int) ≤ ((↑rs.size : Int) - (1 : Int)))) && (decide (((↑rs.size : Int) - (1 : Int)) < (↑rs.size : Int)))) (True ∧ (bcase (decide ((Lib.indexByte (hexT.extract (IntKind.i64.wrap (((↑rs.size : Int) - (1 : Int)) + (1 : Int))).toNat 16).data.toList (bt rs ((↑rs.size : Int) - (1 : Int))).toNat.toUInt8) < (0 : Int))) (K .ret [(4, (.int .i64 ((-1) : Int)))] []) False)))) False))) (K (.exit 1) [] [])) (by kernel_rfl) ?_
  rw [hw]
  refine bcase_t (by simp; omega) (need_of (by simp; omega) (need_of (by simp; omega) (bcase_t ?_ (need_of (by simp; omega) (need_of (by simp; omega) ⟨trivial, bcase_t ?_ hK⟩)))))
  · simp only [bne_iff_ne, ne_eq]
    omega
  · exact decide_eq_true (hexT_none _ _ _ hl hhi)
theorem lookH_ok : CodeOk Tryd.prog Tryd.f37.ntmps (.loop (lp Tryd.f37 5)) lookH := by
  refine loop_ok (call := callOf [(53, pureS indexByteG)]) (hint := hints 37) (tb := tab37) hm (callOf_cons indexByte_ok.spec callOf_nil) (by kernel_rfl) (by repeat' first | exact trivial | constructor | (intro _ h; cases h; exact fun _ _ _ _ _ _ _ _ _ _ h => h.elim) | (intro _ h; cases h)) fun fr H K h => ?_
  unfold lookH at h
  split at h
  · obtain ⟨⟨rfl, rfl, rfl, h2, h4, hl⟩, hK⟩ := h
    exact ⟨_, lookH_round _ h2 h4 hl _ hK⟩
  · exact h.elim
def rngH : LSpec
  | [(175, .pointer (some ⟨0, 0, some 0⟩))], H, K => (H = [.iter hexT 0]) ∧ ∀ p, K (.exit 9) [] [.iter hexT p]
  | _, _, _ => False
theorem rngH_rounds (K : Kont) (h : ∀ p, K (.exit 9) [] [.iter hexT p]) : ∀ d pos : Nat, pos + d = 16 → rnds Tryd.prog (callOf []) (hints 37) noTab (d + 1) (lp Tryd.f37 38) [(175, pt 0)] [.iter hexT pos] K
  | 0, pos, hp => by
    have hs : hexT.size = 16 := rfl
    refine to (R := bcase (decide (pos < 16)) (bcase ((↑(Utf8.decode hexT pos).fst : Int) == (65533 : Int)) (K .ret [(4, (.int .i64 (↑pos : Int)))] [(VB.iter hexT (pos + (Utf8.decode hexT pos).snd))]) (rnds Tryd.prog (callOf []) (hints 37) noTab (nat_lit 0) (lp Tryd.f37 38) [(175, (.pointer (some (Addr.mk 0 0 (some 0)))))] [(VB.iter hexT (pos + (Utf8.decode hexT pos).snd))] K)) (K (.exit 9) [] [(VB.iter hexT pos)])) (by kernel_rfl) ?_
    exact bcase_f (by simp; omega) (h _)
  | d + 1, pos, hp => by
    have hs : hexT.size = 16 := rfl
    have hlt : pos < hexT.size := by omega
    have ih := rngH_rounds K h d (pos + 1) (by omega)
    have hb := hexT_low pos (by omega)
    have hb2 : ((hexT[pos]'hlt).toNat : Int) < 128 := by
      have e : bt hexT (pos : Int) = ((hexT[pos]'hlt).toNat : Int) := by
        rw [bt_li, Int.toNat_natCast, List.getD_eq_getElem?_getD, List.getElem?_eq_getElem (by rw [li_size]; exact hlt)]; rfl
      rw [← e]; exact hb
    have he := decode_ascii hexT pos hlt (by omega)
    obtain ⟨n, hn⟩ : ∃ n, n = d + 1 := ⟨_, rfl⟩; rw [← hn] at ih ⊢
    refine to (R := bcase (decide (pos < 16)) (bcase ((↑(Utf8.decode hexT pos).fst : Int) == (65533 : Int)) (K .ret [(4, (.int .i64 (↑pos : Int)))] [(VB.iter hexT (pos + (Utf8.decode hexT pos).snd))]) (rnds Tryd.prog (callOf []) (hints 37) noTab n (lp Tryd.f37 38) [(175, (.pointer (some (Addr.mk 0 0 (some 0)))))] [(VB.iter hexT (pos + (Utf8.decode hexT pos).snd))] K)) (K (.exit 9) [] [(VB.iter hexT pos)])) (by kernel_rfl) ?_
    rw [he]
    refine bcase_t (decide_eq_true hlt) (bcase_f ?_ ih)
    rw [beq_eq_false_iff_ne]
    show ¬ ((hexT[pos]'hlt).toNat : Int) = 65533
    omega
theorem rngH_ok : CodeOk Tryd.prog Tryd.f37.ntmps (.loop (lp Tryd.f37 38)) rngH := by
  refine loop_ok (call := callOf []) (hint := hints 37) (tb := noTab) hm (callOf_nil) (by kernel_rfl) (by repeat' first | exact trivial | constructor |  (intro _ h; cases h)) fun fr H K h => ?_
  unfold rngH at h
  split at h
  · obtain ⟨rfl, hK⟩ := h
    exact ⟨_, rngH_rounds _ hK 16 0 rfl⟩
  · exact h.elim
def tab37h : Tab := ⟨fun | 12 => some never | 5 => some lookH | 38 => some rngH | _ => none, fun _ => none⟩
def irH (r : Int) : Int := bif decide (r < 128) then Lib.indexByte hexT.data.toList r.toNat.toUInt8 else -1
def irHG : Pure
  | [.string s, .int .i32 r] => some (s = hexT ∧ 0 ≤ r ∧ r ≤ 2147483647, .int .i64 (irH r))
  | _ => none
attribute [local irreducible] Utf8.encode Lib.validRune
theorem irH_ok : PureOk Tryd.prog 37 irHG := by
  refine .of_run (call := callOf [(53, pureS indexByteG), (54, pureS validG)]) (hint := hints 37) (tb := tab37h) hm (callOf_cons indexByte_ok.spec (callOf_cons valid_ok.spec callOf_nil)) Tryd.func37 (by kernel_rfl) rfl (by kernel_rfl) (by repeat' first | exact trivial | constructor | (intro _ h; cases h; exact fun _ _ _ _ _ _ _ _ _ _ h => h.elim) | (intro _ h; cases h; exact lookH_ok) | (intro _ h; cases h; exact rngH_ok) | (intro _ h; cases h)) fun args c r h => ?_
  unfold irHG at h
  split at h
  · rename_i s r
    cases h
    refine ⟨rfl, fun hs => ⟨rfl, 1, fun K hK => ?_⟩⟩
    obtain ⟨rfl, h0, h1⟩ := hs
    have he := fun h => enc_facts r h
    have hwr : 128 ≤ r → IntKind.i64.wrap ((↑(Utf8.encode r).size : Int) - (1 : Int)) = (↑(Utf8.encode r).size : Int) - (1 : Int) := fun h => by
      have := he h
      exact wrap_id (by omega) (by omega)
    have hK := hK []
    refine to (R := bcase (decide ((0 : Int) ≤ r)) (bcase (decide (r < (128 : Int))) (True ∧ (K (.int .i64 (Lib.indexByte hexT.data.toList (IntKind.u8.wrap r).toNat.toUInt8)) [])) (bcase (r == (65533 : Int)) (([(VB.iter hexT 0)] = [(VB.iter hexT 0)]) ∧ (∀ (p : Nat), (K (.int .i64 ((-1) : Int)) []))) (True ∧ (bcase (!(Lib.validRune r)) (K (.int .i64 ((-1) : Int)) []) (((hexT = hexT) ∧ (((IntKind.i64.wrap ((↑(Utf8.encode r).size : Int) - (1 : Int))) = (IntKind.i64.wrap ((↑(Utf8.encode r).size : Int) - (1 : Int)))) ∧ (((IntKind.i64.wrap ((↑(Utf8.encode r).size : Int) - (1 : Int))) = ((↑(Utf8.encode r).size : Int) - (1 : Int))) ∧ ((2 ≤ (Utf8.encode r).size) ∧ (((Utf8.encode r).size ≤ 4) ∧ ((128 : Int) ≤ (bt (Utf8.encode r) ((↑(Utf8.encode r).size : Int) - (1 : Int))))))))) ∧ (K (.int .i64 ((-1) : Int)) [])))))) (bcase (r == (65533 : Int)) (([(VB.iter hexT 0)] = [(VB.iter hexT 0)]) ∧ (∀ (p : Nat), (K (.int .i64 ((-1) : Int)) []))) (True ∧ (bcase (!(Lib.validRune r)) (K (.int .i64 ((-1) : Int)) []) (((hexT = hexT) ∧ (((IntKind.i64.wrap ((↑(Utf8.encode r).size : Int) - (1 : Int))) = (IntKind.i64.wrap ((↑(Utf8.encode r).size : Int) - (1 : Int)))) ∧ (((IntKind.i64.wrap ((↑(Utf8.encode r).size : Int) - (1 : Int))) = ((↑(Utf8.encode r).size : Int) - (1 : Int))) ∧ ((2 ≤ (Utf8.encode r).size) ∧ (((Utf8.encode r).size ≤ 4) ∧ ((128 : Int) ≤ (bt (Utf8.encode r) ((↑(Utf8.encode r).size : Int) - (1 : Int))))))))) ∧ (K (.int .i64 ((-1) : Int)) [])))))) (by kernel_rfl) ?_
    refine bcase_t (by simp; omega) (bcase_of (fun h => ⟨trivial, ?_⟩) (fun h => ?_))
    · have hlt := of_decide_eq_true h
      have hq : IntKind.u8.wrap r = r := by show r % 256 = r; omega
      unfold irH at hK
      rw [h] at hK
      rw [hq]
      exact hK
    · have hr : 128 ≤ r := by have := of_decide_eq_false h; omega
      unfold irH at hK
      rw [h] at hK
      rw [hwr hr]
      obtain ⟨e1, e2, e3⟩ := he hr
      exact bcase_of (fun _ => ⟨rfl, fun _ => hK⟩) (fun _ => ⟨trivial, bcase_of (fun _ => hK) (fun _ => ⟨⟨rfl, rfl, rfl, e1, e2, e3⟩, hK⟩)⟩)
  · cases h
end Go.Proofs.YtofcjkbgieenlaaDoor.PM

namespace Go.Proofs.YtofcjkbgieenlaaDoor.PM
open Go Go.Proofs Go.RowKit
set_option maxRecDepth 100000
set_option linter.unusedVariables false
set_option linter.unusedSimpArgs false

abbrev rowD (x : List Int) : VB := .row (arrC .u8) 32 [x] .own
def pdStep (s : ByteArray) (pos : Nat) (x : List Int) : List Int :=
  x.set (pos / 2) (IntKind.u8.wrap (IntKind.u8.wrap (x.getD (pos / 2) 0 * (2 : Int) ^ 4) + IntKind.u8.wrap (irH ((Utf8.decode s pos).1 : Int))))
/-- What a digest's digits say. -/
def pd (s : ByteArray) : Nat → Nat → List Int → Option (List Int)
  | 0, _, _ => none
  | d + 1, pos, x => bif decide (pos < s.size) then (bif decide (irH ((Utf8.decode s pos).1 : Int) < 0) then none else pd s d (pos + (Utf8.decode s pos).2) (pdStep s pos x)) else some x
theorem u8_range (x : Int) : 0 ≤ IntKind.u8.wrap x ∧ IntKind.u8.wrap x < 256 := by
  show 0 ≤ x % 256 ∧ x % 256 < 256
  omega
theorem pd_bytes (s : ByteArray) : ∀ (d pos : Nat) (x y : List Int), bytesL x → x.length = 32 → pd s d pos x = some y → bytesL y ∧ y.length = 32
  | 0, _, _, _, _, _, h => by cases h
  | d + 1, pos, x, y, h1, h2, h => by
    unfold pd at h
    cases hp : decide (pos < s.size) with
    | false => rw [hp] at h; cases h; exact ⟨h1, h2⟩
    | true =>
      rw [hp, cond_true] at h
      cases hn : decide (irH ((Utf8.decode s pos).1 : Int) < 0) with
      | true => rw [hn] at h; cases h
      | false =>
        rw [hn, cond_false] at h
        refine pd_bytes s d _ _ y (set_bytes h1 (u8_range _).1 (u8_range _).2) ?_ h
        rw [List.length_set]
        exact h2
def digLp : LSpec
  | [(2, .pointer (some ⟨0, 0, some 0⟩)), (4, .pointer (some ⟨1, 0, some 0⟩)), (24, .pointer (some ⟨2, 0, some 0⟩))], H, K => ∃ s : ByteArray, (H = [rowD zerosL, rowD zerosL, .iter s 0] ∧ s.size = 64) ∧
      bcase (pd s 65 0 zerosL).isSome (∀ p, K (.exit 0) [(2, pt 0), (4, pt 1)] [rowD zerosL, rowD ((pd s 65 0 zerosL).getD zerosL), .iter s p]) (∀ x p, K .ret [(2, pt 0), (3, .int .i64 10)] [rowD zerosL, rowD x, .iter s p])
  | _, _, _ => False
theorem pd_rounds (s : ByteArray) (hs : s.size = 64) (K : Kont) : ∀ (d pos : Nat) (x : List Int), s.size ≤ pos + d →
    bcase (pd s (d + 1) pos x).isSome (∀ p, K (.exit 0) [(2, pt 0), (4, pt 1)] [rowD zerosL, rowD ((pd s (d + 1) pos x).getD zerosL), .iter s p]) (∀ x p, K .ret [(2, pt 0), (3, .int .i64 10)] [rowD zerosL, rowD x, .iter s p]) →
    rnds Tryd.prog (callOf [(37, pureS irHG)]) (hints 19) noTab (d + 1) (lp Tryd.f19 6) [(2, pt 0), (4, pt 1), (24, pt 2)] [rowD zerosL, rowD x, .iter s pos] K
  | 0, pos, x, hd, hK => by
    have h0 : decide (pos < s.size) = false := decide_eq_false (by omega)
    rw [pd, h0] at hK
    refine to (R := bcase (decide (pos < s.size)) ((((ByteArray.mk #[48, 49, 50, 51, 52, 53, 54, 55, 56, 57, 97, 98, 99, 100, 101, 102]) = hexT) ∧ (((0 : Int) ≤ (↑(Utf8.decode s pos).fst : Int)) ∧ ((↑(Utf8.decode s pos).fst : Int) ≤ (2147483647 : Int)))) ∧ (bcase (decide ((irH (↑(Utf8.decode s pos).fst : Int)) < (0 : Int))) (K .ret [(2, (.pointer (some (Addr.mk 0 0 (some 0))))), (3, (.int .i64 (10 : Int)))] [(VB.row (arrC .u8) 32 [zerosL] .own), (VB.row (arrC .u8) 32 [x] .own), (VB.iter s (pos + (Utf8.decode s pos).snd))]) (need ((decide ((0 : Int) ≤ (IntKind.i64.wrap ((↑pos : Int).tdiv (2 : Int))))) && (decide ((IntKind.i64.wrap ((↑pos : Int).tdiv (2 : Int))) < (↑32 : Int)))) (need (((IntKind.i64.wrap ((↑pos : Int).tdiv (2 : Int))).toNat + 1).ble 32) (need ((decide ((0 : Int) ≤ (IntKind.i64.wrap ((↑pos : Int).tdiv (2 : Int))))) && (decide ((IntKind.i64.wrap ((↑pos : Int).tdiv (2 : Int))) < (↑32 : Int)))) (need (((IntKind.i64.wrap ((↑pos : Int).tdiv (2 : Int))).toNat + 1).ble 32) (rnds Tryd.prog (callOf [(37, (pureS irHG))]) (hints 19) noTab (nat_lit 0) (lp Tryd.f19 6) [(2, (.pointer (some (Addr.mk 0 0 (some 0))))), (4, (.pointer (some (Addr.mk 1 0 (some 0))))), (24, (.pointer (some (Addr.mk 2 0 (some 0)))))] [(VB.row (arrC .u8) 32 [zerosL] .own), (VB.row (arrC .u8) 32 [(x.set (IntKind.i64.wrap ((↑pos : Int).tdiv (2 : Int))).toNat (IntKind.u8.wrap ((IntKind.u8.wrap ((x.getD (IntKind.i64.wrap ((↑pos : Int).tdiv (2 : Int))).toNat (0 : Int)) * ((2 : Int) ^ 4))) + (IntKind.u8.wrap (irH (↑(Utf8.decode s pos).fst : Int))))))] .own), (VB.iter s (pos + (Utf8.decode s pos).snd))] K))))))) (K (.exit 0) [(2, (.pointer (some (Addr.mk 0 0 (some 0))))), (4, (.pointer (some (Addr.mk 1 0 (some 0)))))] [(VB.row (arrC .u8) 32 [zerosL] .own), (VB.row (arrC .u8) 32 [x] .own), (VB.iter s pos)])) (by kernel_rfl) ?_
    exact bcase_f h0 (hK _)
  | d + 1, pos, x, hd, hK => by
    have ih := pd_rounds s hs K d (pos + (Utf8.decode s pos).2) (pdStep s pos x)
    have hle := decode_le s pos
    have hpos := dec_pos s pos
    rw [pd] at hK
    have hw : pos < 64 → IntKind.i64.wrap ((pos : Int).tdiv 2) = ((pos / 2 : Nat) : Int) := fun h => by
      rw [Int.tdiv_eq_ediv_of_nonneg (by omega), wrap_id (by omega) (by omega)]
      omega
    obtain ⟨n, hn⟩ : ∃ n, n = d + 1 := ⟨_, rfl⟩; rw [← hn] at ih ⊢
    refine to (R := bcase (decide (pos < s.size)) ((((ByteArray.mk #[48, 49, 50, 51, 52, 53, 54, 55, 56, 57, 97, 98, 99, 100, 101, 102]) = hexT) ∧ (((0 : Int) ≤ (↑(Utf8.decode s pos).fst : Int)) ∧ ((↑(Utf8.decode s pos).fst : Int) ≤ (2147483647 : Int)))) ∧ (bcase (decide ((irH (↑(Utf8.decode s pos).fst : Int)) < (0 : Int))) (K .ret [(2, (.pointer (some (Addr.mk 0 0 (some 0))))), (3, (.int .i64 (10 : Int)))] [(VB.row (arrC .u8) 32 [zerosL] .own), (VB.row (arrC .u8) 32 [x] .own), (VB.iter s (pos + (Utf8.decode s pos).snd))]) (need ((decide ((0 : Int) ≤ (IntKind.i64.wrap ((↑pos : Int).tdiv (2 : Int))))) && (decide ((IntKind.i64.wrap ((↑pos : Int).tdiv (2 : Int))) < (↑32 : Int)))) (need (((IntKind.i64.wrap ((↑pos : Int).tdiv (2 : Int))).toNat + 1).ble 32) (need ((decide ((0 : Int) ≤ (IntKind.i64.wrap ((↑pos : Int).tdiv (2 : Int))))) && (decide ((IntKind.i64.wrap ((↑pos : Int).tdiv (2 : Int))) < (↑32 : Int)))) (need (((IntKind.i64.wrap ((↑pos : Int).tdiv (2 : Int))).toNat + 1).ble 32) (rnds Tryd.prog (callOf [(37, (pureS irHG))]) (hints 19) noTab n (lp Tryd.f19 6) [(2, (.pointer (some (Addr.mk 0 0 (some 0))))), (4, (.pointer (some (Addr.mk 1 0 (some 0))))), (24, (.pointer (some (Addr.mk 2 0 (some 0)))))] [(VB.row (arrC .u8) 32 [zerosL] .own), (VB.row (arrC .u8) 32 [(x.set (IntKind.i64.wrap ((↑pos : Int).tdiv (2 : Int))).toNat (IntKind.u8.wrap ((IntKind.u8.wrap ((x.getD (IntKind.i64.wrap ((↑pos : Int).tdiv (2 : Int))).toNat (0 : Int)) * ((2 : Int) ^ 4))) + (IntKind.u8.wrap (irH (↑(Utf8.decode s pos).fst : Int))))))] .own), (VB.iter s (pos + (Utf8.decode s pos).snd))] K))))))) (K (.exit 0) [(2, (.pointer (some (Addr.mk 0 0 (some 0))))), (4, (.pointer (some (Addr.mk 1 0 (some 0)))))] [(VB.row (arrC .u8) 32 [zerosL] .own), (VB.row (arrC .u8) 32 [x] .own), (VB.iter s pos)])) (by kernel_rfl) ?_
    refine bcase_of (fun h => ⟨⟨rfl, by omega, by omega⟩, bcase_of (fun h2 => ?_) (fun h2 => ?_)⟩) (fun h => ?_)
    · simp only [h, h2, cond_true] at hK
      exact hK _ _
    · have hlt := of_decide_eq_true h
      simp only [h, h2, cond_true, cond_false] at hK
      have := hpos hlt
      rw [hw (by omega)]
      rw [← hn] at hK
      simp only [Int.toNat_natCast]
      exact need_of (by simp; omega) (need_of (by simp; omega) (need_of (by simp; omega) (need_of (by simp; omega) (ih (by omega) hK))))
    · simp only [h, cond_false] at hK
      exact hK _
theorem digLp_ok : CodeOk Tryd.prog Tryd.f19.ntmps (.loop (lp Tryd.f19 6)) digLp := by
  refine loop_ok (call := callOf [(37, pureS irHG)]) (hint := hints 19) (tb := noTab) hm (callOf_cons irH_ok.spec callOf_nil) (by kernel_rfl) (by repeat' first | exact trivial | constructor |  (intro _ h; cases h)) fun fr H K h => ?_
  unfold digLp at h
  split at h
  · obtain ⟨s, ⟨rfl, hs⟩, hK⟩ := h
    exact ⟨65, pd_rounds s hs _ 64 0 _ (by omega) hK⟩
  · exact h.elim
attribute [irreducible] pd
def tab19 : Tab := ⟨fun | 6 => some digLp | _ => none, fun _ => none⟩
def restS (s : ByteArray) : ByteArray := tpS s headT
def pdOk (s : ByteArray) : Bool := hpS s headT && (((restS s).size : Int) == 64 && (pd (restS s) 65 0 zerosL).isSome)
@[irreducible] def pparseX (s : ByteArray) : List Int := bif pdOk s then (pd (restS s) 65 0 zerosL).getD zerosL else zerosL
@[irreducible] def pparseE (s : ByteArray) : Int := bif pdOk s then 0 else 10
def pparseG : Pure
  | [.string s] => some (s.size < 2 ^ 40, .tuple ⟨[.agg ⟨digL (pparseX s)⟩, .int .i64 (pparseE s)]⟩)
  | _ => none
theorem pparse_ok : PureOk Tryd.prog 19 pparseG := by
  refine .of_run (call := callOf [(28, pureS (two (fun s t => True) fun s t => .tuple #[.string ⟨(Lib.trimPrefix s.data.toList t.data.toList).toArray⟩, .bool (Lib.hasPrefix s.data.toList t.data.toList)]))]) (hint := hints 19) (tb := tab19) hm (callOf_cons cutPrefix_ok.spec callOf_nil) Tryd.func19 (by kernel_rfl) rfl (by kernel_rfl) (by repeat' first | exact trivial | constructor | (intro _ h; cases h; exact digLp_ok) | (intro _ h; cases h)) fun args c r h => ?_
  unfold pparseG at h
  split at h
  · rename_i s
    cases h
    refine ⟨rfl, fun hs => ⟨rfl, 1, fun K hK => ?_⟩⟩
    have hK := hK []
    have hX : pparseX s = bif pdOk s then (pd (restS s) 65 0 zerosL).getD zerosL else zerosL := by unfold pparseX; rfl
    have hE : pparseE s = bif pdOk s then 0 else 10 := by unfold pparseE; rfl
    have hlen : ((pd (restS s) 65 0 zerosL).getD zerosL).length = 32 := by
      cases h : pd (restS s) 65 0 zerosL with
      | none => rfl
      | some y => exact (pd_bytes _ _ _ _ _ zeros_bytes rfl h).2
    have hd := decI_digL hlen
    have hz : decI (digL zerosL) = zerosL := decI_digL rfl
    rw [hX, hE] at hK
    clear hX hE
    simp only [pdOk, restS] at hK hd
    refine to (R := True ∧ (bcase (!(Lib.hasPrefix s.data.toList (ByteArray.mk #[115, 104, 97, 50, 53, 54, 58]).data.toList)) (K (.tuple (Array.mk [(.agg (Array.mk (digL zerosL))), (.int .i64 (10 : Int))])) []) (bcase ((↑(ByteArray.mk (Lib.trimPrefix s.data.toList (ByteArray.mk #[115, 104, 97, 50, 53, 54, 58]).data.toList).toArray).size : Int) != (64 : Int)) (K (.tuple (Array.mk [(.agg (Array.mk (digL zerosL))), (.int .i64 (10 : Int))])) []) (∃ (s_1 : ByteArray), ((([(VB.row (arrC .u8) 32 [zerosL] .own), (VB.row (arrC .u8) 32 [zerosL] .own), (VB.iter (ByteArray.mk (Lib.trimPrefix s.data.toList (ByteArray.mk #[115, 104, 97, 50, 53, 54, 58]).data.toList).toArray) 0)] = [(VB.row (arrC .u8) 32 [zerosL] .own), (VB.row (arrC .u8) 32 [zerosL] .own), (VB.iter s_1 0)]) ∧ (s_1.size = 64)) ∧ (bcase (pd s_1 65 0 zerosL).isSome (∀ (p : Nat), (K (.tuple (Array.mk [(.agg (Array.mk (digL (decI (digL ((pd s_1 65 0 zerosL).getD zerosL)))))), (.int .i64 (0 : Int))])) [])) (∀ (x : (List Int)) (p : Nat), (K (.tuple (Array.mk [(.agg (Array.mk (digL zerosL))), (.int .i64 (10 : Int))])) [])))))))) (by kernel_rfl) ?_
    refine ⟨trivial, bcase_not (bcase_of (fun h1 => ?_) (fun h1 => ?_))⟩
    · simp only [h1, Bool.true_and] at hK
      refine bcase_of (fun h2 => ?_) (fun h2 => ⟨_, ⟨rfl, ?_⟩, bcase_of (fun h3 => ?_) (fun h3 => ?_)⟩)
      · simp only [show (((tpS s headT).size : Int) == 64) = false from (Bool.not_eq_true' _).mp h2, Bool.false_and, cond_false] at hK
        exact hK
      · have h4 : (((tpS s headT).size : Int) == 64) = true := (Bool.not_eq_false' _).mp h2
        rw [beq_iff_eq] at h4
        show (tpS s headT).size = 64
        omega
      · have h4 : (((tpS s headT).size : Int) == 64) = true := (Bool.not_eq_false' _).mp h2
        intro p
        show K (.tuple ⟨[.agg ⟨digL (decI (digL ((pd (tpS s headT) 65 0 zerosL).getD zerosL)))⟩, .int .i64 0]⟩) []
        rw [hd]
        simp only [h4, show (pd (tpS s headT) 65 0 zerosL).isSome = true from h3, Bool.and_self, cond_true] at hK
        exact hK
      · intro x p
        simp only [show (pd (tpS s headT) 65 0 zerosL).isSome = false from h3, Bool.and_false, cond_false] at hK
        exact hK
    · simp only [h1, Bool.false_and, cond_false] at hK
      exact hK
  · cases h
theorem pparse_bytes (s : ByteArray) : bytesL (pparseX s) ∧ (pparseX s).length = 32 := by
  unfold pparseX
  cases pdOk s with
  | false => exact ⟨zeros_bytes, rfl⟩
  | true =>
    cases h : pd (restS s) 65 0 zerosL with
    | none => exact ⟨zeros_bytes, rfl⟩
    | some y => exact pd_bytes _ _ _ _ _ zeros_bytes rfl h
end Go.Proofs.YtofcjkbgieenlaaDoor.PM

namespace Go.Proofs.YtofcjkbgieenlaaDoor.PM
open Go Go.Proofs Go.RowKit
set_option maxRecDepth 100000
set_option linter.unusedVariables false
set_option linter.unusedSimpArgs false

def pend (r : RefT) : RefT × Int := bif checkS r != 0 then (zeroR, checkS r) else (r, 0)
def pfin (d p t : ByteArray) (x : List Int) (b : Bool) : RefT × Int :=
  bif isS d [100, 111, 99, 107, 101, 114, 46, 105, 111] && !hasSlash p then pend ⟨d, libT ++ p, t, x, b⟩ else pend ⟨d, p, t, x, b⟩
def pmid (name t : ByteArray) (x : List Int) (b : Bool) : RefT × Int :=
  bif isS (splitD name) [] || isS (splitD name) [105, 110, 100, 101, 120, 46, 100, 111, 99, 107, 101, 114, 46, 105, 111] then pfin (ByteArray.mk #[100, 111, 99, 107, 101, 114, 46, 105, 111]) (splitR name) t x b else pfin (splitD name) (splitR name) t x b
abbrev lastI (name : ByteArray) : Int := Lib.lastIndexByte name 58
def ptag (name : ByteArray) (x : List Int) (b : Bool) : RefT × Int :=
  bif decide (lastI name ≥ 0) && !hasSlash (name.extract (lastI name).toNat name.size) then
    bif isS (name.extract ((lastI name).toNat + 1) name.size) [] then (zeroR, 10) else pmid (name.extract 0 (lastI name).toNat) (name.extract ((lastI name).toNat + 1) name.size) x b
  else bif !b then pmid name (ByteArray.mk #[108, 97, 116, 101, 115, 116]) x b else pmid name ⟨#[]⟩ x b
def pparse9 (s : ByteArray) : RefT × Int :=
  bif decide ((s.size : Int) > 200) then (zeroR, 3) else
  bif cutF s 64 then (bif pparseE (cutZ s 64) != 0 then (zeroR, 10) else ptag (cutA s 64) (pparseX (cutZ s 64)) true) else ptag (cutA s 64) zerosL false
def Q23 : LSpec
  | [(2, .pointer (some ⟨0, 0, some 0⟩)), (4, .pointer (some ⟨1, 0, some 0⟩))], H, K => ∃ r : RefT, (H = [rowR zeroR.cells, rowR r.cells] ∧ RefP r) ∧ RetP K (pend r)
  | _, _, _ => False
theorem Q23_ok : CodeOk Tryd.prog Tryd.f9.ntmps (jn Tryd.f9 23) Q23 := by
  refine join_ok (call := callOf [(15, pureS (refPG fun r => .int .i64 (checkS r)))]) (hint := hints 9) (tb := noTab) hm (callOf_cons check_ok.spec callOf_nil) (by kernel_rfl) (by repeat' first | exact trivial | constructor |  (intro _ h; cases h)) fun fr H K h => ?_
  unfold Q23 at h
  split at h
  · obtain ⟨r, ⟨rfl, hr⟩, hK⟩ := h
    refine ⟨1, ?_⟩
    have hd := decI_digL hr.ok.n
    have he : RefT.mk r.d r.p r.t (decI (digL r.x)) r.b = r := by rw [hd]
    refine to (R := (RefP (RefT.mk r.d r.p r.t (decI (digL r.x)) r.b)) ∧ (bcase ((checkS (RefT.mk r.d r.p r.t (decI (digL r.x)) r.b)) != (0 : Int)) (K .ret [(2, (.pointer (some (Addr.mk 0 0 (some 0))))), (3, (.int .i64 (checkS (RefT.mk r.d r.p r.t (decI (digL r.x)) r.b))))] [(VB.row raw 36 [(refL (ByteArray.mk #[]) (ByteArray.mk #[]) (ByteArray.mk #[]) zerosL false)] .own), (VB.row raw 36 [(refL r.d r.p r.t r.x r.b)] .own)]) (K .ret [(2, (.pointer (some (Addr.mk 0 0 (some 0))))), (3, (.int .i64 (0 : Int)))] [(VB.row raw 36 [(refL r.d r.p r.t r.x r.b)] .own), (VB.row raw 36 [(refL r.d r.p r.t r.x r.b)] .own)]))) (by kernel_rfl) ?_
    rw [he]
    have := hK r.cells
    unfold pend at this
    refine ⟨hr, bcase_of (fun h => ?_) (fun h => ?_)⟩
    · rw [h] at this
      exact this
    · rw [h] at this
      exact this
  · exact h.elim
def Q21 : LSpec
  | [(2, .pointer (some ⟨0, 0, some 0⟩)), (4, .pointer (some ⟨1, 0, some 0⟩))], H, K => ∃ r : RefT, (H = [rowR zeroR.cells, rowR r.cells] ∧ RefP r ∧ r.p.size ≤ 1000) ∧ RetP K (pfin r.d r.p r.t r.x r.b)
  | _, _, _ => False
def tabQ23 : Tab := ⟨fun _ => none, fun | 23 => some Q23 | _ => none⟩
theorem Q21_ok : CodeOk Tryd.prog Tryd.f9.ntmps (jn Tryd.f9 21) Q21 := by
  refine join_ok (call := callOf [(21, pureS (two (fun s t => t = ⟨#[47]⟩) fun s t => .bool (decide (0 ≤ Lib.indexByte s.data.toList 47))))]) (hint := hints 9) (tb := tabQ23) hm (callOf_cons contains_ok.spec callOf_nil) (by kernel_rfl) (by repeat' first | exact trivial | constructor | (intro _ h; cases h; exact Q23_ok) | (intro _ h; cases h)) fun fr H K h => ?_
  unfold Q21 at h
  split at h
  · obtain ⟨r, ⟨rfl, hr, hp⟩, hK⟩ := h
    obtain ⟨⟨k1, k2, k3, k4, k5⟩, k6, k7⟩ := hr
    refine ⟨1, ?_⟩
    have hz : (libT ++ r.p).size = 8 + r.p.size := ByteArray.size_append
    have f1 : (libT ++ r.p).size < 2 ^ 30 := by omega
    have f2 : (libT ++ r.p).size ≤ 1000000 := by omega
    refine to (R := bcase (r.d.toList == (ByteArray.mk #[100, 111, 99, 107, 101, 114, 46, 105, 111]).toList) (((ByteArray.mk #[47]) = (ByteArray.mk #[47])) ∧ (bcase (!(decide ((0 : Int) ≤ (Lib.indexByte r.p.data.toList 47)))) (need (decide ((8 + r.p.size) < 9223372036854775808)) (∃ (r_1 : RefT), ((([(VB.row raw 36 [(refL zeroR.d zeroR.p zeroR.t zeroR.x false)] .own), (VB.row raw 36 [(refL r.d ((ByteArray.mk #[108, 105, 98, 114, 97, 114, 121, 47]) ++ r.p) r.t r.x r.b)] .own)] = [(VB.row raw 36 [(refL zeroR.d zeroR.p zeroR.t zeroR.x false)] .own), (VB.row raw 36 [(refL r_1.d r_1.p r_1.t r_1.x r_1.b)] .own)]) ∧ (RefP r_1)) ∧ (∀ (l : (List Value)), (K .ret [(2, (.pointer (some (Addr.mk 0 0 (some 0))))), (3, (.int .i64 (pend r_1).snd))] [(VB.row raw 36 [(refL (pend r_1).fst.d (pend r_1).fst.p (pend r_1).fst.t (pend r_1).fst.x (pend r_1).fst.b)] .own), (VB.row raw 36 [l] .own)]))))) (∃ (r_1 : RefT), ((([(VB.row raw 36 [(refL zeroR.d zeroR.p zeroR.t zeroR.x false)] .own), (VB.row raw 36 [(refL r.d r.p r.t r.x r.b)] .own)] = [(VB.row raw 36 [(refL zeroR.d zeroR.p zeroR.t zeroR.x false)] .own), (VB.row raw 36 [(refL r_1.d r_1.p r_1.t r_1.x r_1.b)] .own)]) ∧ (RefP r_1)) ∧ (∀ (l : (List Value)), (K .ret [(2, (.pointer (some (Addr.mk 0 0 (some 0))))), (3, (.int .i64 (pend r_1).snd))] [(VB.row raw 36 [(refL (pend r_1).fst.d (pend r_1).fst.p (pend r_1).fst.t (pend r_1).fst.x (pend r_1).fst.b)] .own), (VB.row raw 36 [l] .own)])))))) (∃ (r_1 : RefT), ((([(VB.row raw 36 [(refL zeroR.d zeroR.p zeroR.t zeroR.x false)] .own), (VB.row raw 36 [(refL r.d r.p r.t r.x r.b)] .own)] = [(VB.row raw 36 [(refL zeroR.d zeroR.p zeroR.t zeroR.x false)] .own), (VB.row raw 36 [(refL r_1.d r_1.p r_1.t r_1.x r_1.b)] .own)]) ∧ (RefP r_1)) ∧ (∀ (l : (List Value)), (K .ret [(2, (.pointer (some (Addr.mk 0 0 (some 0))))), (3, (.int .i64 (pend r_1).snd))] [(VB.row raw 36 [(refL (pend r_1).fst.d (pend r_1).fst.p (pend r_1).fst.t (pend r_1).fst.x (pend r_1).fst.b)] .own), (VB.row raw 36 [l] .own)]))))) (by kernel_rfl) ?_
    simp only [isS, pfin, hasSlash] at hK
    repeat' first | with_reducible exact trivial | with_reducible refine need_of (by first | first | with_reducible assumption | (simp only [List.length_cons, List.length_nil, Nat.zero_add, Nat.zero_lt_succ, decide_true, Bool.and_true, Bool.and_self]; done) | with_reducible exact pos_of (by assumption) | with_reducible exact pos_of' (by assumption) | omega | (simp only [ByteArray.size_append, sz1, decide_eq_true_eq, *]; omega) | decide | (simp only [Bool.and_true, Bool.and_eq_true, decide_eq_true_eq, ByteArray.size_extract, ByteArray.size_append, sz1, Int.toNat_natCast, List.getD_eq_getElem?_getD, beq_iff_eq, decide_eq_false_iff_not] at *; omega) | ((repeat' constructor) <;> first | rfl | first | with_reducible assumption | (simp only [List.length_cons, List.length_nil, Nat.zero_add, Nat.zero_lt_succ, decide_true, Bool.and_true, Bool.and_self]; done) | with_reducible exact pos_of (by assumption) | with_reducible exact pos_of' (by assumption) | omega | (simp only [ByteArray.size_append, sz1, decide_eq_true_eq, *]; omega) | decide | (simp only [Bool.and_true, Bool.and_eq_true, decide_eq_true_eq, ByteArray.size_extract, ByteArray.size_append, sz1, Int.toNat_natCast, List.getD_eq_getElem?_getD, beq_iff_eq, decide_eq_false_iff_not] at *; omega))) ?_ | with_reducible refine And.intro (by first | first | with_reducible assumption | (simp only [List.length_cons, List.length_nil, Nat.zero_add, Nat.zero_lt_succ, decide_true, Bool.and_true, Bool.and_self]; done) | with_reducible exact pos_of (by assumption) | with_reducible exact pos_of' (by assumption) | omega | (simp only [ByteArray.size_append, sz1, decide_eq_true_eq, *]; omega) | decide | (simp only [Bool.and_true, Bool.and_eq_true, decide_eq_true_eq, ByteArray.size_extract, ByteArray.size_append, sz1, Int.toNat_natCast, List.getD_eq_getElem?_getD, beq_iff_eq, decide_eq_false_iff_not] at *; omega) | ((repeat' constructor) <;> first | rfl | first | with_reducible assumption | (simp only [List.length_cons, List.length_nil, Nat.zero_add, Nat.zero_lt_succ, decide_true, Bool.and_true, Bool.and_self]; done) | with_reducible exact pos_of (by assumption) | with_reducible exact pos_of' (by assumption) | omega | (simp only [ByteArray.size_append, sz1, decide_eq_true_eq, *]; omega) | decide | (simp only [Bool.and_true, Bool.and_eq_true, decide_eq_true_eq, ByteArray.size_extract, ByteArray.size_append, sz1, Int.toNat_natCast, List.getD_eq_getElem?_getD, beq_iff_eq, decide_eq_false_iff_not] at *; omega))) ?_ | with_reducible refine bcase_not ?_ | with_reducible refine bcase_t rfl ?_ | with_reducible refine bcase_f rfl ?_ | with_reducible refine bcase_t (by assumption) ?_ | with_reducible refine bcase_f (by assumption) ?_ | (with_reducible refine bcase_of (fun hx => ?_) (fun hx => ?_) <;> try simp only [hx, bcase_tt, bcase_ff, Int.toNat_natCast, Bool.not_true, Bool.not_false, cond_true, cond_false, Bool.and_true, Bool.and_false, Bool.true_and, Bool.false_and, Bool.or_true, Bool.or_false, Bool.true_or, Bool.false_or] at hK)
    all_goals (refine ⟨⟨_, _, _, _, _⟩, ⟨rfl, ?_⟩, hK⟩)
    all_goals first | exact ⟨⟨k1, k2, k3, k4, k5⟩, k6, k7⟩ | exact ⟨⟨k1, f1, k3, k4, k5⟩, k6, f2⟩
  · exact h.elim
def Q18 : LSpec
  | [(2, .pointer (some ⟨0, 0, some 0⟩)), (4, .pointer (some ⟨1, 0, some 0⟩)), (5, .string name)], H, K => ∃ r : RefT, (H = [rowR zeroR.cells, rowR r.cells] ∧ RefP r ∧ name.size ≤ 1000) ∧ RetP K (pmid name r.t r.x r.b)
  | _, _, _ => False
def tabQ21 : Tab := ⟨fun _ => none, fun | 21 => some Q21 | _ => none⟩
theorem splitD_size (s : ByteArray) : (splitD s).size ≤ s.size := by
  unfold splitD
  cases cutF s 47 && toldS (cutA s 47)
  · exact Nat.zero_le _
  · exact cutA_size s 47
theorem cutZ_size' (s : ByteArray) (c : UInt8) : (cutZ s c).size ≤ s.size := cutZ_size s c
theorem splitR_size (s : ByteArray) : (splitR s).size ≤ s.size := by
  unfold splitR
  cases cutF s 47 && toldS (cutA s 47)
  · exact Nat.le_refl _
  · exact cutZ_size s 47
attribute [local irreducible] splitD splitR
theorem Q18_ok : CodeOk Tryd.prog Tryd.f9.ntmps (jn Tryd.f9 18) Q18 := by
  refine join_ok (call := callOf [(22, pureS splitG)]) (hint := hints 9) (tb := tabQ21) hm (callOf_cons split_ok.spec callOf_nil) (by kernel_rfl) (by repeat' first | exact trivial | constructor | (intro _ h; cases h; exact Q21_ok) | (intro _ h; cases h)) fun fr H K h => ?_
  unfold Q18 at h
  split at h
  · rename_i name
    obtain ⟨r, ⟨rfl, hr, hp⟩, hK⟩ := h
    obtain ⟨⟨k1, k2, k3, k4, k5⟩, k6, k7⟩ := hr
    refine ⟨1, ?_⟩
    have g1 := splitD_size name
    have g2 := splitR_size name
    have f1 : (splitD name).size < 2 ^ 30 := by omega
    have f2 : (splitR name).size < 2 ^ 30 := by omega
    have f3 : (splitD name).size ≤ 1000000 := by omega
    have f4 : (splitR name).size ≤ 1000000 := by omega
    have f5 : (splitR name).size ≤ 1000 := by omega
    have f6 : (ByteArray.mk #[100, 111, 99, 107, 101, 114, 46, 105, 111]).size ≤ 1000000 := by decide
    refine to (R := (name.size < 2147483648) ∧ (bcase ((splitD name).toList == (ByteArray.mk #[]).toList) (∃ (r_1 : RefT), ((([(VB.row raw 36 [(refL zeroR.d zeroR.p zeroR.t zeroR.x false)] .own), (VB.row raw 36 [(refL (ByteArray.mk #[100, 111, 99, 107, 101, 114, 46, 105, 111]) (splitR name) r.t r.x r.b)] .own)] = [(VB.row raw 36 [(refL zeroR.d zeroR.p zeroR.t zeroR.x false)] .own), (VB.row raw 36 [(refL r_1.d r_1.p r_1.t r_1.x r_1.b)] .own)]) ∧ ((RefP r_1) ∧ (r_1.p.size ≤ 1000))) ∧ (∀ (l : (List Value)), (K .ret [(2, (.pointer (some (Addr.mk 0 0 (some 0))))), (3, (.int .i64 (pfin r_1.d r_1.p r_1.t r_1.x r_1.b).snd))] [(VB.row raw 36 [(refL (pfin r_1.d r_1.p r_1.t r_1.x r_1.b).fst.d (pfin r_1.d r_1.p r_1.t r_1.x r_1.b).fst.p (pfin r_1.d r_1.p r_1.t r_1.x r_1.b).fst.t (pfin r_1.d r_1.p r_1.t r_1.x r_1.b).fst.x (pfin r_1.d r_1.p r_1.t r_1.x r_1.b).fst.b)] .own), (VB.row raw 36 [l] .own)])))) (bcase ((splitD name).toList == (ByteArray.mk #[105, 110, 100, 101, 120, 46, 100, 111, 99, 107, 101, 114, 46, 105, 111]).toList) (∃ (r_1 : RefT), ((([(VB.row raw 36 [(refL zeroR.d zeroR.p zeroR.t zeroR.x false)] .own), (VB.row raw 36 [(refL (ByteArray.mk #[100, 111, 99, 107, 101, 114, 46, 105, 111]) (splitR name) r.t r.x r.b)] .own)] = [(VB.row raw 36 [(refL zeroR.d zeroR.p zeroR.t zeroR.x false)] .own), (VB.row raw 36 [(refL r_1.d r_1.p r_1.t r_1.x r_1.b)] .own)]) ∧ ((RefP r_1) ∧ (r_1.p.size ≤ 1000))) ∧ (∀ (l : (List Value)), (K .ret [(2, (.pointer (some (Addr.mk 0 0 (some 0))))), (3, (.int .i64 (pfin r_1.d r_1.p r_1.t r_1.x r_1.b).snd))] [(VB.row raw 36 [(refL (pfin r_1.d r_1.p r_1.t r_1.x r_1.b).fst.d (pfin r_1.d r_1.p r_1.t r_1.x r_1.b).fst.p (pfin r_1.d r_1.p r_1.t r_1.x r_1.b).fst.t (pfin r_1.d r_1.p r_1.t r_1.x r_1.b).fst.x (pfin r_1.d r_1.p r_1.t r_1.x r_1.b).fst.b)] .own), (VB.row raw 36 [l] .own)])))) (∃ (r_1 : RefT), ((([(VB.row raw 36 [(refL zeroR.d zeroR.p zeroR.t zeroR.x false)] .own), (VB.row raw 36 [(refL (splitD name) (splitR name) r.t r.x r.b)] .own)] = [(VB.row raw 36 [(refL zeroR.d zeroR.p zeroR.t zeroR.x false)] .own), (VB.row raw 36 [(refL r_1.d r_1.p r_1.t r_1.x r_1.b)] .own)]) ∧ ((RefP r_1) ∧ (r_1.p.size ≤ 1000))) ∧ (∀ (l : (List Value)), (K .ret [(2, (.pointer (some (Addr.mk 0 0 (some 0))))), (3, (.int .i64 (pfin r_1.d r_1.p r_1.t r_1.x r_1.b).snd))] [(VB.row raw 36 [(refL (pfin r_1.d r_1.p r_1.t r_1.x r_1.b).fst.d (pfin r_1.d r_1.p r_1.t r_1.x r_1.b).fst.p (pfin r_1.d r_1.p r_1.t r_1.x r_1.b).fst.t (pfin r_1.d r_1.p r_1.t r_1.x r_1.b).fst.x (pfin r_1.d r_1.p r_1.t r_1.x r_1.b).fst.b)] .own), (VB.row raw 36 [l] .own)]))))))) (by kernel_rfl) ?_
    simp only [isS, pmid] at hK
    repeat' first | with_reducible exact trivial | with_reducible refine need_of (by first | first | with_reducible assumption | (simp only [List.length_cons, List.length_nil, Nat.zero_add, Nat.zero_lt_succ, decide_true, Bool.and_true, Bool.and_self]; done) | with_reducible exact pos_of (by assumption) | with_reducible exact pos_of' (by assumption) | omega | (simp only [ByteArray.size_append, sz1, decide_eq_true_eq, *]; omega) | decide | (simp only [Bool.and_true, Bool.and_eq_true, decide_eq_true_eq, ByteArray.size_extract, ByteArray.size_append, sz1, Int.toNat_natCast, List.getD_eq_getElem?_getD, beq_iff_eq, decide_eq_false_iff_not] at *; omega) | ((repeat' constructor) <;> first | rfl | first | with_reducible assumption | (simp only [List.length_cons, List.length_nil, Nat.zero_add, Nat.zero_lt_succ, decide_true, Bool.and_true, Bool.and_self]; done) | with_reducible exact pos_of (by assumption) | with_reducible exact pos_of' (by assumption) | omega | (simp only [ByteArray.size_append, sz1, decide_eq_true_eq, *]; omega) | decide | (simp only [Bool.and_true, Bool.and_eq_true, decide_eq_true_eq, ByteArray.size_extract, ByteArray.size_append, sz1, Int.toNat_natCast, List.getD_eq_getElem?_getD, beq_iff_eq, decide_eq_false_iff_not] at *; omega))) ?_ | with_reducible refine And.intro (by first | first | with_reducible assumption | (simp only [List.length_cons, List.length_nil, Nat.zero_add, Nat.zero_lt_succ, decide_true, Bool.and_true, Bool.and_self]; done) | with_reducible exact pos_of (by assumption) | with_reducible exact pos_of' (by assumption) | omega | (simp only [ByteArray.size_append, sz1, decide_eq_true_eq, *]; omega) | decide | (simp only [Bool.and_true, Bool.and_eq_true, decide_eq_true_eq, ByteArray.size_extract, ByteArray.size_append, sz1, Int.toNat_natCast, List.getD_eq_getElem?_getD, beq_iff_eq, decide_eq_false_iff_not] at *; omega) | ((repeat' constructor) <;> first | rfl | first | with_reducible assumption | (simp only [List.length_cons, List.length_nil, Nat.zero_add, Nat.zero_lt_succ, decide_true, Bool.and_true, Bool.and_self]; done) | with_reducible exact pos_of (by assumption) | with_reducible exact pos_of' (by assumption) | omega | (simp only [ByteArray.size_append, sz1, decide_eq_true_eq, *]; omega) | decide | (simp only [Bool.and_true, Bool.and_eq_true, decide_eq_true_eq, ByteArray.size_extract, ByteArray.size_append, sz1, Int.toNat_natCast, List.getD_eq_getElem?_getD, beq_iff_eq, decide_eq_false_iff_not] at *; omega))) ?_ | with_reducible refine bcase_not ?_ | with_reducible refine bcase_t rfl ?_ | with_reducible refine bcase_f rfl ?_ | with_reducible refine bcase_t (by assumption) ?_ | with_reducible refine bcase_f (by assumption) ?_ | (with_reducible refine bcase_of (fun hx => ?_) (fun hx => ?_) <;> try simp only [hx, bcase_tt, bcase_ff, Int.toNat_natCast, Bool.not_true, Bool.not_false, cond_true, cond_false, Bool.and_true, Bool.and_false, Bool.true_and, Bool.false_and, Bool.or_true, Bool.or_false, Bool.true_or, Bool.false_or] at hK)
    all_goals (refine ⟨⟨_, _, _, _, _⟩, ⟨rfl, ?_, f5⟩, hK⟩)
    all_goals first | exact ⟨⟨f1, f2, k3, k4, k5⟩, f3, f4⟩ | exact ⟨⟨sz8, f2, k3, k4, k5⟩, f6, f4⟩
  · exact h.elim
end Go.Proofs.YtofcjkbgieenlaaDoor.PM

namespace Go.Proofs.YtofcjkbgieenlaaDoor.PM
open Go Go.Proofs Go.RowKit
set_option maxRecDepth 100000
set_option linter.unusedVariables false
set_option linter.unusedSimpArgs false

theorem lastI_range (s : ByteArray) : -1 ≤ lastI s ∧ lastI s < s.size := by
  rcases Lib.lastIdx_spec s 58 s.size with ⟨h, _⟩ | ⟨i, h1, h2, _⟩
  · rw [lastI, Lib.lastIndexByte, h]; omega
  · rw [lastI, Lib.lastIndexByte, h2]; omega
abbrev lastG : Pure := fun
    | [.string s, .int .u8 c] => some (s.size < 4611686018427387904, .int .i64 (Lib.lastIndexByte s c))
    | _ => none
def Q10 : LSpec
  | [(2, .pointer (some ⟨0, 0, some 0⟩)), (4, .pointer (some ⟨1, 0, some 0⟩)), (5, .string name), (7, .bool pin)], H, K => ∃ r : RefT, (H = [rowR zeroR.cells, rowR r.cells] ∧ RefP r ∧ name.size ≤ 1000 ∧ pin = r.b ∧ r.t = ⟨#[]⟩) ∧ RetP K (ptag name r.x r.b)
  | _, _, _ => False
def tabQ18 : Tab := ⟨fun _ => none, fun | 18 => some Q18 | _ => none⟩
attribute [local irreducible] Lib.lastIndexByte
theorem Q10_ok : CodeOk Tryd.prog Tryd.f9.ntmps (jn Tryd.f9 10) Q10 := by
  refine join_ok (call := callOf [(20, pureS lastG), (21, pureS (two (fun s t => t = ⟨#[47]⟩) fun s t => .bool (decide (0 ≤ Lib.indexByte s.data.toList 47))))]) (hint := hints 9) (tb := tabQ18) hm (callOf_cons lastIndex_ok.spec (callOf_cons contains_ok.spec callOf_nil)) (by kernel_rfl) (by repeat' first | exact trivial | constructor | (intro _ h; cases h; exact Q18_ok) | (intro _ h; cases h)) fun fr H K h => ?_
  unfold Q10 at h
  split at h
  · rename_i name pin
    obtain ⟨⟨d, p, t, x, b⟩, ⟨rfl, hr, hn, rfl, rfl⟩, hK⟩ := h
    obtain ⟨⟨k1, k2, k3, k4, k5⟩, k6, k7⟩ := hr
    dsimp only at k1 k2 k3 k4 k5 k6 k7 hK
    refine ⟨1, ?_⟩
    have hl : -1 ≤ Lib.lastIndexByte name 58 ∧ Lib.lastIndexByte name 58 < name.size := lastI_range name
    have z0 : (ByteArray.mk #[]).size < 2 ^ 30 := by decide
    have z6 : (ByteArray.mk #[108, 97, 116, 101, 115, 116]).size < 2 ^ 30 := by decide
    refine to (R := (name.size < 4611686018427387904) ∧ (bcase (decide ((Lib.lastIndexByte name (58 : Int)) ≥ (0 : Int))) (need ((decide ((0 : Int) ≤ (Lib.lastIndexByte name (58 : Int)))) && ((decide ((Lib.lastIndexByte name (58 : Int)) ≤ (↑name.size : Int))) && (decide ((↑name.size : Int) ≤ (↑name.size : Int))))) (((ByteArray.mk #[47]) = (ByteArray.mk #[47])) ∧ (bcase (!(decide ((0 : Int) ≤ (Lib.indexByte (name.extract (Lib.lastIndexByte name (58 : Int)).toNat (↑name.size : Int).toNat).data.toList 47)))) (need ((decide ((0 : Int) ≤ (IntKind.i64.wrap ((Lib.lastIndexByte name (58 : Int)) + (1 : Int))))) && ((decide ((IntKind.i64.wrap ((Lib.lastIndexByte name (58 : Int)) + (1 : Int))) ≤ (↑name.size : Int))) && (decide ((↑name.size : Int) ≤ (↑name.size : Int))))) (need ((decide (0 < [(refL (RefT.mk d p (ByteArray.mk #[]) x pin).d (RefT.mk d p (ByteArray.mk #[]) x pin).p (name.extract (IntKind.i64.wrap ((Lib.lastIndexByte name (58 : Int)) + (1 : Int))).toNat (↑name.size : Int).toNat) (RefT.mk d p (ByteArray.mk #[]) x pin).x (RefT.mk d p (ByteArray.mk #[]) x pin).b)].length)) && true) (bcase ((name.extract (IntKind.i64.wrap ((Lib.lastIndexByte name (58 : Int)) + (1 : Int))).toNat (↑name.size : Int).toNat).toList == (ByteArray.mk #[]).toList) (K .ret [(2, (.pointer (some (Addr.mk 0 0 (some 0))))), (3, (.int .i64 (10 : Int)))] [(VB.row raw 36 [(refL (ByteArray.mk #[]) (ByteArray.mk #[]) (ByteArray.mk #[]) zerosL false)] .own), (VB.row raw 36 [(refL (RefT.mk d p (ByteArray.mk #[]) x pin).d (RefT.mk d p (ByteArray.mk #[]) x pin).p (name.extract (IntKind.i64.wrap ((Lib.lastIndexByte name (58 : Int)) + (1 : Int))).toNat (↑name.size : Int).toNat) (RefT.mk d p (ByteArray.mk #[]) x pin).x (RefT.mk d p (ByteArray.mk #[]) x pin).b)] .own)]) (need ((decide ((0 : Int) ≤ (Lib.lastIndexByte name (58 : Int)))) && (decide ((Lib.lastIndexByte name (58 : Int)) ≤ (↑name.size : Int)))) (∃ (r : RefT), ((([(VB.row raw 36 [(refL zeroR.d zeroR.p zeroR.t zeroR.x false)] .own), (VB.row raw 36 [(refL (RefT.mk d p (ByteArray.mk #[]) x pin).d (RefT.mk d p (ByteArray.mk #[]) x pin).p (name.extract (IntKind.i64.wrap ((Lib.lastIndexByte name (58 : Int)) + (1 : Int))).toNat (↑name.size : Int).toNat) (RefT.mk d p (ByteArray.mk #[]) x pin).x (RefT.mk d p (ByteArray.mk #[]) x pin).b)] .own)] = [(VB.row raw 36 [(refL zeroR.d zeroR.p zeroR.t zeroR.x false)] .own), (VB.row raw 36 [(refL r.d r.p r.t r.x r.b)] .own)]) ∧ ((RefP r) ∧ ((name.extract 0 (Lib.lastIndexByte name (58 : Int)).toNat).size ≤ 1000))) ∧ (∀ (l : (List Value)), (K .ret [(2, (.pointer (some (Addr.mk 0 0 (some 0))))), (3, (.int .i64 (pmid (name.extract 0 (Lib.lastIndexByte name (58 : Int)).toNat) r.t r.x r.b).snd))] [(VB.row raw 36 [(refL (pmid (name.extract 0 (Lib.lastIndexByte name (58 : Int)).toNat) r.t r.x r.b).fst.d (pmid (name.extract 0 (Lib.lastIndexByte name (58 : Int)).toNat) r.t r.x r.b).fst.p (pmid (name.extract 0 (Lib.lastIndexByte name (58 : Int)).toNat) r.t r.x r.b).fst.t (pmid (name.extract 0 (Lib.lastIndexByte name (58 : Int)).toNat) r.t r.x r.b).fst.x (pmid (name.extract 0 (Lib.lastIndexByte name (58 : Int)).toNat) r.t r.x r.b).fst.b)] .own), (VB.row raw 36 [l] .own)])))))))) (bcase (!pin) (∃ (r : RefT), ((([(VB.row raw 36 [(refL zeroR.d zeroR.p zeroR.t zeroR.x false)] .own), (VB.row raw 36 [(refL (RefT.mk d p (ByteArray.mk #[]) x pin).d (RefT.mk d p (ByteArray.mk #[]) x pin).p (ByteArray.mk #[108, 97, 116, 101, 115, 116]) (RefT.mk d p (ByteArray.mk #[]) x pin).x (RefT.mk d p (ByteArray.mk #[]) x pin).b)] .own)] = [(VB.row raw 36 [(refL zeroR.d zeroR.p zeroR.t zeroR.x false)] .own), (VB.row raw 36 [(refL r.d r.p r.t r.x r.b)] .own)]) ∧ ((RefP r) ∧ (name.size ≤ 1000))) ∧ (∀ (l : (List Value)), (K .ret [(2, (.pointer (some (Addr.mk 0 0 (some 0))))), (3, (.int .i64 (pmid name r.t r.x r.b).snd))] [(VB.row raw 36 [(refL (pmid name r.t r.x r.b).fst.d (pmid name r.t r.x r.b).fst.p (pmid name r.t r.x r.b).fst.t (pmid name r.t r.x r.b).fst.x (pmid name r.t r.x r.b).fst.b)] .own), (VB.row raw 36 [l] .own)])))) (∃ (r : RefT), ((([(VB.row raw 36 [(refL zeroR.d zeroR.p zeroR.t zeroR.x false)] .own), (VB.row raw 36 [(refL (RefT.mk d p (ByteArray.mk #[]) x pin).d (RefT.mk d p (ByteArray.mk #[]) x pin).p (RefT.mk d p (ByteArray.mk #[]) x pin).t (RefT.mk d p (ByteArray.mk #[]) x pin).x (RefT.mk d p (ByteArray.mk #[]) x pin).b)] .own)] = [(VB.row raw 36 [(refL zeroR.d zeroR.p zeroR.t zeroR.x false)] .own), (VB.row raw 36 [(refL r.d r.p r.t r.x r.b)] .own)]) ∧ ((RefP r) ∧ (name.size ≤ 1000))) ∧ (∀ (l : (List Value)), (K .ret [(2, (.pointer (some (Addr.mk 0 0 (some 0))))), (3, (.int .i64 (pmid name r.t r.x r.b).snd))] [(VB.row raw 36 [(refL (pmid name r.t r.x r.b).fst.d (pmid name r.t r.x r.b).fst.p (pmid name r.t r.x r.b).fst.t (pmid name r.t r.x r.b).fst.x (pmid name r.t r.x r.b).fst.b)] .own), (VB.row raw 36 [l] .own)])))))))) (bcase (!pin) (∃ (r : RefT), ((([(VB.row raw 36 [(refL zeroR.d zeroR.p zeroR.t zeroR.x false)] .own), (VB.row raw 36 [(refL (RefT.mk d p (ByteArray.mk #[]) x pin).d (RefT.mk d p (ByteArray.mk #[]) x pin).p (ByteArray.mk #[108, 97, 116, 101, 115, 116]) (RefT.mk d p (ByteArray.mk #[]) x pin).x (RefT.mk d p (ByteArray.mk #[]) x pin).b)] .own)] = [(VB.row raw 36 [(refL zeroR.d zeroR.p zeroR.t zeroR.x false)] .own), (VB.row raw 36 [(refL r.d r.p r.t r.x r.b)] .own)]) ∧ ((RefP r) ∧ (name.size ≤ 1000))) ∧ (∀ (l : (List Value)), (K .ret [(2, (.pointer (some (Addr.mk 0 0 (some 0))))), (3, (.int .i64 (pmid name r.t r.x r.b).snd))] [(VB.row raw 36 [(refL (pmid name r.t r.x r.b).fst.d (pmid name r.t r.x r.b).fst.p (pmid name r.t r.x r.b).fst.t (pmid name r.t r.x r.b).fst.x (pmid name r.t r.x r.b).fst.b)] .own), (VB.row raw 36 [l] .own)])))) (∃ (r : RefT), ((([(VB.row raw 36 [(refL zeroR.d zeroR.p zeroR.t zeroR.x false)] .own), (VB.row raw 36 [(refL (RefT.mk d p (ByteArray.mk #[]) x pin).d (RefT.mk d p (ByteArray.mk #[]) x pin).p (RefT.mk d p (ByteArray.mk #[]) x pin).t (RefT.mk d p (ByteArray.mk #[]) x pin).x (RefT.mk d p (ByteArray.mk #[]) x pin).b)] .own)] = [(VB.row raw 36 [(refL zeroR.d zeroR.p zeroR.t zeroR.x false)] .own), (VB.row raw 36 [(refL r.d r.p r.t r.x r.b)] .own)]) ∧ ((RefP r) ∧ (name.size ≤ 1000))) ∧ (∀ (l : (List Value)), (K .ret [(2, (.pointer (some (Addr.mk 0 0 (some 0))))), (3, (.int .i64 (pmid name r.t r.x r.b).snd))] [(VB.row raw 36 [(refL (pmid name r.t r.x r.b).fst.d (pmid name r.t r.x r.b).fst.p (pmid name r.t r.x r.b).fst.t (pmid name r.t r.x r.b).fst.x (pmid name r.t r.x r.b).fst.b)] .own), (VB.row raw 36 [l] .own)]))))))) (by kernel_rfl) ?_
    rcases Int.lt_or_le (Lib.lastIndexByte name 58) 0 with hneg | hpos
    · have h0 : decide (Lib.lastIndexByte name 58 ≥ 0) = false := decide_eq_false (by omega)
      simp only [ptag, lastI, h0, Bool.false_and, cond_false] at hK
      refine ⟨by omega, bcase_f h0 (bcase_not (bcase_of (fun hx => ?_) (fun hx => ?_)))⟩
      · try simp only [hx, bcase_tt, bcase_ff, Int.toNat_natCast, Bool.not_true, Bool.not_false, cond_true, cond_false, Bool.and_true, Bool.and_false, Bool.true_and, Bool.false_and, Bool.or_true, Bool.or_false, Bool.true_or, Bool.false_or] at hK
        exact ⟨⟨d, p, ⟨#[]⟩, x, pin⟩, ⟨rfl, ⟨⟨k1, k2, z0, k4, k5⟩, k6, k7⟩, hn⟩, by rw [hx]; exact hK⟩
      · try simp only [hx, bcase_tt, bcase_ff, Int.toNat_natCast, Bool.not_true, Bool.not_false, cond_true, cond_false, Bool.and_true, Bool.and_false, Bool.true_and, Bool.false_and, Bool.or_true, Bool.or_false, Bool.true_or, Bool.false_or] at hK
        exact ⟨⟨d, p, (ByteArray.mk #[108, 97, 116, 101, 115, 116]), x, pin⟩, ⟨rfl, ⟨⟨k1, k2, z6, k4, k5⟩, k6, k7⟩, hn⟩, by rw [hx]; exact hK⟩
    · obtain ⟨i, hi⟩ : ∃ i : Nat, Lib.lastIndexByte name 58 = (i : Int) := ⟨(Lib.lastIndexByte name 58).toNat, by omega⟩
      have hlt : i < name.size := by have := hl.2; omega
      have hw : IntKind.i64.wrap ((i : Int) + 1) = ((i + 1 : Nat) : Int) := wrap_id (by omega) (by omega)
      have h0 : decide ((i : Int) ≥ 0) = true := decide_eq_true (by omega)
      simp only [ptag, lastI, hi, h0, Bool.true_and, Int.toNat_natCast, isS, hasSlash] at hK
      simp only [hi, hw, Int.toNat_natCast]
      have f1 : (name.extract (i + 1) name.size).size < 2 ^ 30 := by rw [ByteArray.size_extract]; omega
      have f2 : (name.extract 0 i).size ≤ 1000 := by rw [ByteArray.size_extract]; omega
      have leafB : RetP K (bif !pin then pmid name (ByteArray.mk #[108, 97, 116, 101, 115, 116]) x pin else pmid name ⟨#[]⟩ x pin) → (bcase (!pin) (∃ r : RefT, (([rowR zeroR.cells, rowR (refL d p (ByteArray.mk #[108, 97, 116, 101, 115, 116]) x pin)] = [rowR zeroR.cells, rowR r.cells]) ∧ RefP r ∧ name.size ≤ 1000) ∧ RetP K (pmid name r.t r.x r.b))
          (∃ r : RefT, (([rowR zeroR.cells, rowR (refL d p ⟨#[]⟩ x pin)] = [rowR zeroR.cells, rowR r.cells]) ∧ RefP r ∧ name.size ≤ 1000) ∧ RetP K (pmid name r.t r.x r.b))) := fun hq => by
        refine bcase_not (bcase_of (fun hx => ?_) (fun hx => ?_))
        · rw [hx] at hq
          exact ⟨⟨d, p, ⟨#[]⟩, x, pin⟩, ⟨rfl, ⟨⟨k1, k2, z0, k4, k5⟩, k6, k7⟩, hn⟩, by rw [hx]; exact hq⟩
        · rw [hx] at hq
          exact ⟨⟨d, p, (ByteArray.mk #[108, 97, 116, 101, 115, 116]), x, pin⟩, ⟨rfl, ⟨⟨k1, k2, z6, k4, k5⟩, k6, k7⟩, hn⟩, by rw [hx]; exact hq⟩
      refine ⟨by omega, bcase_t h0 (need_of (by simp; omega) ⟨trivial, bcase_not (bcase_of (fun hx => ?_) (fun hx => ?_))⟩)⟩
      · simp only [hx, Bool.not_true, cond_false] at hK
        exact leafB hK
      · simp only [hx, Bool.not_false, cond_true] at hK
        refine need_of (by simp; omega) (need_of rfl (bcase_of (fun h2 => ?_) (fun h2 => need_of (by simp; omega) ?_)))
        · simp only [h2, cond_true] at hK
          exact hK _
        · simp only [h2, cond_false] at hK
          exact ⟨⟨d, p, name.extract (i + 1) name.size, x, pin⟩, ⟨rfl, ⟨⟨k1, k2, f1, k4, k5⟩, k6, k7⟩, f2⟩, hK⟩
  · exact h.elim
def tabQ10 : Tab := ⟨fun _ => none, fun | 10 => some Q10 | _ => none⟩
def pparse9G : Pure
  | [.string s] => some (s.size < 2 ^ 29, refV (pparse9 s))
  | _ => none
attribute [local irreducible] ptag
theorem pparse9_ok : PureOk Tryd.prog 9 pparse9G := by
  refine .of_run (call := callOf [(18, pureS cutG2), (19, pureS pparseG)]) (hint := hints 9) (tb := tabQ10) hm (callOf_cons cut_ok'.spec (callOf_cons pparse_ok.spec callOf_nil)) Tryd.func9 (by kernel_rfl) rfl (by kernel_rfl) (by repeat' first | exact trivial | constructor | (intro _ h; cases h; exact Q10_ok) | (intro _ h; cases h)) fun args c r h => ?_
  unfold pparse9G at h
  split at h
  · rename_i s
    cases h
    refine ⟨rfl, fun hs => ⟨rfl, 1, fun K hK => ?_⟩⟩
    have ho : oneB (ByteArray.mk #[64]) = 64 := rfl
    have g1 := cutA_size s 64
    have g2 := cutZ_size s 64
    obtain ⟨hb, hb2⟩ := pparse_bytes (cutZ s 64)
    have z0 : (ByteArray.mk #[]).size < 2 ^ 30 := by decide
    have z1 : (ByteArray.mk #[]).size ≤ 1000000 := by decide
    have hz := zeros_bytes
    have hd := decI_digL hb2
    refine to (R := bcase (decide ((↑s.size : Int) > (200 : Int))) (K (.tuple (Array.mk [(.agg (Array.mk (refL (ByteArray.mk #[]) (ByteArray.mk #[]) (ByteArray.mk #[]) zerosL false))), (.int .i64 (3 : Int))])) []) (((∃ (c : UInt8), ((ByteArray.mk #[64]) = (ByteArray.mk #[c]))) ∧ (s.size < 1099511627776)) ∧ (bcase (cutF s (oneB (ByteArray.mk #[64]))) (((cutZ s (oneB (ByteArray.mk #[64]))).size < 1099511627776) ∧ (bcase ((pparseE (cutZ s (oneB (ByteArray.mk #[64])))) != (0 : Int)) (K (.tuple (Array.mk [(.agg (Array.mk (refL (ByteArray.mk #[]) (ByteArray.mk #[]) (ByteArray.mk #[]) zerosL false))), (.int .i64 (10 : Int))])) []) (∃ (r : RefT), ((([(VB.row raw 36 [(refL (ByteArray.mk #[]) (ByteArray.mk #[]) (ByteArray.mk #[]) zerosL false)] .own), (VB.row raw 36 [(refL (ByteArray.mk #[]) (ByteArray.mk #[]) (ByteArray.mk #[]) (pparseX (cutZ s (oneB (ByteArray.mk #[64])))) true)] .own)] = [(VB.row raw 36 [(refL zeroR.d zeroR.p zeroR.t zeroR.x false)] .own), (VB.row raw 36 [(refL r.d r.p r.t r.x r.b)] .own)]) ∧ ((RefP r) ∧ (((cutA s (oneB (ByteArray.mk #[64]))).size ≤ 1000) ∧ (((cutF s (oneB (ByteArray.mk #[64]))) = r.b) ∧ (r.t = (ByteArray.mk #[])))))) ∧ (∀ (l : (List Value)), (K (.tuple (Array.mk [(.agg (Array.mk (refL (ptag (cutA s (oneB (ByteArray.mk #[64]))) r.x r.b).fst.d (ptag (cutA s (oneB (ByteArray.mk #[64]))) r.x r.b).fst.p (ptag (cutA s (oneB (ByteArray.mk #[64]))) r.x r.b).fst.t (ptag (cutA s (oneB (ByteArray.mk #[64]))) r.x r.b).fst.x (ptag (cutA s (oneB (ByteArray.mk #[64]))) r.x r.b).fst.b))), (.int .i64 (ptag (cutA s (oneB (ByteArray.mk #[64]))) r.x r.b).snd)])) [])))))) (∃ (r : RefT), ((([(VB.row raw 36 [(refL (ByteArray.mk #[]) (ByteArray.mk #[]) (ByteArray.mk #[]) zerosL false)] .own), (VB.row raw 36 [(refL (ByteArray.mk #[]) (ByteArray.mk #[]) (ByteArray.mk #[]) zerosL false)] .own)] = [(VB.row raw 36 [(refL zeroR.d zeroR.p zeroR.t zeroR.x false)] .own), (VB.row raw 36 [(refL r.d r.p r.t r.x r.b)] .own)]) ∧ ((RefP r) ∧ (((cutA s (oneB (ByteArray.mk #[64]))).size ≤ 1000) ∧ (((cutF s (oneB (ByteArray.mk #[64]))) = r.b) ∧ (r.t = (ByteArray.mk #[])))))) ∧ (∀ (l : (List Value)), (K (.tuple (Array.mk [(.agg (Array.mk (refL (ptag (cutA s (oneB (ByteArray.mk #[64]))) r.x r.b).fst.d (ptag (cutA s (oneB (ByteArray.mk #[64]))) r.x r.b).fst.p (ptag (cutA s (oneB (ByteArray.mk #[64]))) r.x r.b).fst.t (ptag (cutA s (oneB (ByteArray.mk #[64]))) r.x r.b).fst.x (ptag (cutA s (oneB (ByteArray.mk #[64]))) r.x r.b).fst.b))), (.int .i64 (ptag (cutA s (oneB (ByteArray.mk #[64]))) r.x r.b).snd)])) []))))))) (by kernel_rfl) ?_
    simp only [ho]
    refine bcase_of (fun h1 => ?_) (fun h1 => ⟨⟨⟨64, rfl⟩, by omega⟩, bcase_of (fun h2 => ⟨by omega, bcase_of (fun h3 => ?_) (fun h3 => ?_)⟩) (fun h2 => ?_)⟩)
    · simp only [pparse9, h1, cond_true] at hK
      exact hK []
    · simp only [pparse9, h1, h2, h3, cond_true, cond_false] at hK
      exact hK []
    · simp only [pparse9, h1, h2, h3, cond_true, cond_false] at hK
      have := of_decide_eq_false h1
      exact ⟨⟨⟨#[]⟩, ⟨#[]⟩, ⟨#[]⟩, pparseX (cutZ s 64), true⟩, ⟨rfl, ⟨⟨z0, z0, z0, hb, hb2⟩, z1, z1⟩, by omega, h2, rfl⟩, fun _ => hK []⟩
    · simp only [pparse9, h1, h2, cond_false] at hK
      have := of_decide_eq_false h1
      exact ⟨⟨⟨#[]⟩, ⟨#[]⟩, ⟨#[]⟩, zerosL, false⟩, ⟨rfl, ⟨⟨z0, z0, z0, hz, rfl⟩, z1, z1⟩, by omega, h2, rfl⟩, fun _ => hK []⟩
  · cases h
end Go.Proofs.YtofcjkbgieenlaaDoor.PM

namespace Go.Proofs.YtofcjkbgieenlaaDoor.PM
open Go Go.Proofs Go.RowKit
set_option maxRecDepth 100000
set_option linter.unusedVariables false
set_option linter.unusedSimpArgs false

/-- A name of such parts as Parse puts together. -/
structure RefQ (r : RefT) : Prop where
  d : r.d.size ≤ 300
  p : r.p.size ≤ 310
  t : r.t.size ≤ 300
  x : bytesL r.x
  n : r.x.length = 32
theorem RefQ.toP {r : RefT} (h : RefQ r) : RefP r := by
  obtain ⟨h1, h2, h3, h4, h5⟩ := h
  exact ⟨⟨by omega, by omega, by omega, h4, h5⟩, by omega, by omega⟩
theorem zeroR_q : RefQ zeroR := ⟨by decide, by decide, by decide, zeros_bytes, rfl⟩
theorem pend_q (r : RefT) (h : RefQ r) : RefQ (pend r).1 := by
  unfold pend
  cases checkS r != 0
  · exact h
  · exact zeroR_q
theorem pfin_q {d p t : ByteArray} {x : List Int} {b : Bool} (hd : d.size ≤ 300) (hp : p.size ≤ 300) (ht : t.size ≤ 300) (hx : bytesL x) (hn : x.length = 32) : RefQ (pfin d p t x b).1 := by
  unfold pfin
  have hz : (libT ++ p).size = 8 + p.size := ByteArray.size_append
  cases isS d [100, 111, 99, 107, 101, 114, 46, 105, 111] && !hasSlash p
  · exact pend_q _ ⟨hd, by show p.size ≤ 310; omega, ht, hx, hn⟩
  · exact pend_q _ ⟨hd, by show (libT ++ p).size ≤ 310; omega, ht, hx, hn⟩
theorem pmid_q {name t : ByteArray} {x : List Int} {b : Bool} (hm : name.size ≤ 300) (ht : t.size ≤ 300) (hx : bytesL x) (hn : x.length = 32) : RefQ (pmid name t x b).1 := by
  unfold pmid
  have h1 := splitD_size name
  have h2 := splitR_size name
  cases isS (splitD name) [] || isS (splitD name) [105, 110, 100, 101, 120, 46, 100, 111, 99, 107, 101, 114, 46, 105, 111]
  · exact pfin_q (by omega) (by omega) ht hx hn
  · exact pfin_q (by decide) (by omega) ht hx hn
theorem ptag_q {name : ByteArray} {x : List Int} {b : Bool} (hm : name.size ≤ 300) (hx : bytesL x) (hn : x.length = 32) : RefQ (ptag name x b).1 := by
  unfold ptag
  have e : ∀ a b, (name.extract a b).size ≤ 300 := fun a b => by rw [ByteArray.size_extract]; omega
  cases decide (lastI name ≥ 0) && !hasSlash (name.extract (lastI name).toNat name.size)
  · cases b
    · exact pmid_q hm (by decide) hx hn
    · exact pmid_q hm (by decide) hx hn
  · simp only [cond_true]
    cases isS (name.extract ((lastI name).toNat + 1) name.size) []
    · exact pmid_q (e _ _) (e _ _) hx hn
    · exact zeroR_q
theorem pparse9_q (s : ByteArray) : RefQ (pparse9 s).1 := by
  unfold pparse9
  have h1 := cutA_size s 64
  cases h : decide ((s.size : Int) > 200)
  · have := of_decide_eq_false h
    simp only [cond_false]
    cases cutF s 64
    · exact ptag_q (by omega) zeros_bytes rfl
    · simp only [cond_true]
      cases pparseE (cutZ s 64) != 0
      · exact ptag_q (by omega) (pparse_bytes _).1 (pparse_bytes _).2
      · exact zeroR_q
  · exact zeroR_q
abbrev shaT : ByteArray := (ByteArray.mk #[97, 47, 98, 64, 115, 104, 97, 50, 53, 54, 58, 48, 49, 50, 51, 52, 53, 54, 55, 56, 57, 97, 98, 99, 100, 101, 102, 48, 49, 50, 51, 52, 53, 54, 55, 56, 57, 97, 98, 99, 100, 101, 102, 48, 49, 50, 51, 52, 53, 54, 55, 56, 57, 97, 98, 99, 100, 101, 102, 48, 49, 50, 51, 52, 53, 54, 55, 56, 57, 97, 98, 99, 100, 101, 102])
theorem n1 : pparse9 (ByteArray.mk #[98, 117, 115, 121, 98, 111, 120]) = (⟨(ByteArray.mk #[100, 111, 99, 107, 101, 114, 46, 105, 111]), (ByteArray.mk #[108, 105, 98, 114, 97, 114, 121, 47, 98, 117, 115, 121, 98, 111, 120]), (ByteArray.mk #[108, 97, 116, 101, 115, 116]), zerosL, false⟩, 0) := by kernel_rfl
theorem n1t : ptextS ⟨(ByteArray.mk #[100, 111, 99, 107, 101, 114, 46, 105, 111]), (ByteArray.mk #[108, 105, 98, 114, 97, 114, 121, 47, 98, 117, 115, 121, 98, 111, 120]), (ByteArray.mk #[108, 97, 116, 101, 115, 116]), zerosL, false⟩ = (ByteArray.mk #[100, 111, 99, 107, 101, 114, 46, 105, 111, 47, 108, 105, 98, 114, 97, 114, 121, 47, 98, 117, 115, 121, 98, 111, 120, 58, 108, 97, 116, 101, 115, 116]) := by kernel_rfl
theorem n1s : pshortS ⟨(ByteArray.mk #[100, 111, 99, 107, 101, 114, 46, 105, 111]), (ByteArray.mk #[108, 105, 98, 114, 97, 114, 121, 47, 98, 117, 115, 121, 98, 111, 120]), (ByteArray.mk #[108, 97, 116, 101, 115, 116]), zerosL, false⟩ = (ByteArray.mk #[98, 117, 115, 121, 98, 111, 120]) := by kernel_rfl
theorem n2 : pparse9 (ByteArray.mk #[108, 111, 99, 97, 108, 104, 111, 115, 116, 47, 97, 58, 49]) = (⟨(ByteArray.mk #[108, 111, 99, 97, 108, 104, 111, 115, 116]), (ByteArray.mk #[97]), (ByteArray.mk #[49]), zerosL, false⟩, 0) := by kernel_rfl
abbrev shaX : List Int := [1, 35, 69, 103, 137, 171, 205, 239, 1, 35, 69, 103, 137, 171, 205, 239, 1, 35, 69, 103, 137, 171, 205, 239, 1, 35, 69, 103, 137, 171, 205, 239]
theorem n3 : pparse9 shaT = (⟨(ByteArray.mk #[100, 111, 99, 107, 101, 114, 46, 105, 111]), (ByteArray.mk #[97, 47, 98]), ⟨#[]⟩, shaX, true⟩, 0) := by kernel_rfl
theorem n3s : pshortS ⟨(ByteArray.mk #[100, 111, 99, 107, 101, 114, 46, 105, 111]), (ByteArray.mk #[97, 47, 98]), ⟨#[]⟩, shaX, true⟩ = shaT := by kernel_rfl
theorem n4 : pparse9 (ByteArray.mk #[65]) = (zeroR, 10) := by kernel_rfl
theorem n5 : pparse9 (ByteArray.mk #[97, 46, 46, 98]) = (zeroR, 10) := by kernel_rfl
theorem n6 : pparse9 (ByteArray.mk #[97, 58]) = (zeroR, 10) := by kernel_rfl
theorem n7 : pshortS ⟨(ByteArray.mk #[100, 111, 99, 107, 101, 114, 46, 105, 111]), (ByteArray.mk #[97, 46, 98, 47, 99]), (ByteArray.mk #[108, 97, 116, 101, 115, 116]), zerosL, false⟩ = (ByteArray.mk #[100, 111, 99, 107, 101, 114, 46, 105, 111, 47, 97, 46, 98, 47, 99]) := by kernel_rfl
end Go.Proofs.YtofcjkbgieenlaaDoor.PM

namespace Go.Proofs.YtofcjkbgieenlaaDoor.PM
open Go Go.Proofs Go.RowKit
set_option maxRecDepth 100000
set_option linter.unusedVariables false
set_option linter.unusedSimpArgs false

def namedG : Pure
  | [] => some (True, .bool true)
  | _ => none
attribute [local irreducible] pparse9 ptextS pshortS checkS
theorem named_ok : PureOk Tryd.prog 8 namedG := by
  refine .of_run (call := callOf [(9, pureS pparse9G), (11, pureS (refPG fun r => .string (ptextS r))), (13, pureS (refPG fun r => .string (pshortS r)))]) (hint := hints 8) (tb := noTab) hm (callOf_cons pparse9_ok.spec (callOf_cons pText_ok.spec (callOf_cons short_ok.spec callOf_nil))) Tryd.func8 (by kernel_rfl) rfl (by kernel_rfl) (by repeat' first | exact trivial | constructor |  (intro _ h; cases h)) fun args c r h => ?_
  unfold namedG at h
  split at h
  · cases h
    refine ⟨rfl, fun hs => ⟨rfl, 1, fun K hK => ?_⟩⟩
    have hK := hK []
    have z : decI (digL zerosL) = zerosL := decI_digL rfl
    have z2 : decI (digL shaX) = shaX := decI_digL rfl
    have p1 := (pparse9_q (ByteArray.mk #[98, 117, 115, 121, 98, 111, 120])).toP
    have p3 := (pparse9_q shaT).toP
    rw [n1] at p1
    rw [n3] at p3
    have p7 : RefP ⟨(ByteArray.mk #[100, 111, 99, 107, 101, 114, 46, 105, 111]), (ByteArray.mk #[97, 46, 98, 47, 99]), (ByteArray.mk #[108, 97, 116, 101, 115, 116]), zerosL, false⟩ := RefQ.toP ⟨by decide, by decide, by decide, zeros_bytes, rfl⟩
    dsimp only at p1 p3
    refine to (R := (7 < 536870912) ∧ ((13 < 536870912) ∧ ((75 < 536870912) ∧ ((1 < 536870912) ∧ ((4 < 536870912) ∧ ((2 < 536870912) ∧ (bcase ((pparse9 (ByteArray.mk #[98, 117, 115, 121, 98, 111, 120])).snd != (0 : Int)) (K (.bool false) []) ((RefP (RefT.mk (pparse9 (ByteArray.mk #[98, 117, 115, 121, 98, 111, 120])).fst.d (pparse9 (ByteArray.mk #[98, 117, 115, 121, 98, 111, 120])).fst.p (pparse9 (ByteArray.mk #[98, 117, 115, 121, 98, 111, 120])).fst.t (decI (digL (pparse9 (ByteArray.mk #[98, 117, 115, 121, 98, 111, 120])).fst.x)) (pparse9 (ByteArray.mk #[98, 117, 115, 121, 98, 111, 120])).fst.b)) ∧ (bcase (!((ptextS (RefT.mk (pparse9 (ByteArray.mk #[98, 117, 115, 121, 98, 111, 120])).fst.d (pparse9 (ByteArray.mk #[98, 117, 115, 121, 98, 111, 120])).fst.p (pparse9 (ByteArray.mk #[98, 117, 115, 121, 98, 111, 120])).fst.t (decI (digL (pparse9 (ByteArray.mk #[98, 117, 115, 121, 98, 111, 120])).fst.x)) (pparse9 (ByteArray.mk #[98, 117, 115, 121, 98, 111, 120])).fst.b)).toList == (ByteArray.mk #[100, 111, 99, 107, 101, 114, 46, 105, 111, 47, 108, 105, 98, 114, 97, 114, 121, 47, 98, 117, 115, 121, 98, 111, 120, 58, 108, 97, 116, 101, 115, 116]).toList)) (K (.bool false) []) ((RefP (RefT.mk (pparse9 (ByteArray.mk #[98, 117, 115, 121, 98, 111, 120])).fst.d (pparse9 (ByteArray.mk #[98, 117, 115, 121, 98, 111, 120])).fst.p (pparse9 (ByteArray.mk #[98, 117, 115, 121, 98, 111, 120])).fst.t (decI (digL (pparse9 (ByteArray.mk #[98, 117, 115, 121, 98, 111, 120])).fst.x)) (pparse9 (ByteArray.mk #[98, 117, 115, 121, 98, 111, 120])).fst.b)) ∧ (bcase (!((pshortS (RefT.mk (pparse9 (ByteArray.mk #[98, 117, 115, 121, 98, 111, 120])).fst.d (pparse9 (ByteArray.mk #[98, 117, 115, 121, 98, 111, 120])).fst.p (pparse9 (ByteArray.mk #[98, 117, 115, 121, 98, 111, 120])).fst.t (decI (digL (pparse9 (ByteArray.mk #[98, 117, 115, 121, 98, 111, 120])).fst.x)) (pparse9 (ByteArray.mk #[98, 117, 115, 121, 98, 111, 120])).fst.b)).toList == (ByteArray.mk #[98, 117, 115, 121, 98, 111, 120]).toList)) (K (.bool false) []) (bcase ((pparse9 (ByteArray.mk #[108, 111, 99, 97, 108, 104, 111, 115, 116, 47, 97, 58, 49])).snd != (0 : Int)) (K (.bool false) []) (bcase (!((pparse9 (ByteArray.mk #[108, 111, 99, 97, 108, 104, 111, 115, 116, 47, 97, 58, 49])).fst.d.toList == (ByteArray.mk #[108, 111, 99, 97, 108, 104, 111, 115, 116]).toList)) (K (.bool false) []) (bcase (!((pparse9 (ByteArray.mk #[108, 111, 99, 97, 108, 104, 111, 115, 116, 47, 97, 58, 49])).fst.p.toList == (ByteArray.mk #[97]).toList)) (K (.bool false) []) (bcase (!((pparse9 (ByteArray.mk #[108, 111, 99, 97, 108, 104, 111, 115, 116, 47, 97, 58, 49])).fst.t.toList == (ByteArray.mk #[49]).toList)) (K (.bool false) []) (bcase ((pparse9 (ByteArray.mk #[97, 47, 98, 64, 115, 104, 97, 50, 53, 54, 58, 48, 49, 50, 51, 52, 53, 54, 55, 56, 57, 97, 98, 99, 100, 101, 102, 48, 49, 50, 51, 52, 53, 54, 55, 56, 57, 97, 98, 99, 100, 101, 102, 48, 49, 50, 51, 52, 53, 54, 55, 56, 57, 97, 98, 99, 100, 101, 102, 48, 49, 50, 51, 52, 53, 54, 55, 56, 57, 97, 98, 99, 100, 101, 102])).snd != (0 : Int)) (K (.bool false) []) (bcase (!((pparse9 (ByteArray.mk #[97, 47, 98, 64, 115, 104, 97, 50, 53, 54, 58, 48, 49, 50, 51, 52, 53, 54, 55, 56, 57, 97, 98, 99, 100, 101, 102, 48, 49, 50, 51, 52, 53, 54, 55, 56, 57, 97, 98, 99, 100, 101, 102, 48, 49, 50, 51, 52, 53, 54, 55, 56, 57, 97, 98, 99, 100, 101, 102, 48, 49, 50, 51, 52, 53, 54, 55, 56, 57, 97, 98, 99, 100, 101, 102])).fst.t.toList == (ByteArray.mk #[]).toList)) (K (.bool false) []) (bcase (!(pparse9 (ByteArray.mk #[97, 47, 98, 64, 115, 104, 97, 50, 53, 54, 58, 48, 49, 50, 51, 52, 53, 54, 55, 56, 57, 97, 98, 99, 100, 101, 102, 48, 49, 50, 51, 52, 53, 54, 55, 56, 57, 97, 98, 99, 100, 101, 102, 48, 49, 50, 51, 52, 53, 54, 55, 56, 57, 97, 98, 99, 100, 101, 102, 48, 49, 50, 51, 52, 53, 54, 55, 56, 57, 97, 98, 99, 100, 101, 102])).fst.b) (K (.bool false) []) ((RefP (RefT.mk (pparse9 (ByteArray.mk #[97, 47, 98, 64, 115, 104, 97, 50, 53, 54, 58, 48, 49, 50, 51, 52, 53, 54, 55, 56, 57, 97, 98, 99, 100, 101, 102, 48, 49, 50, 51, 52, 53, 54, 55, 56, 57, 97, 98, 99, 100, 101, 102, 48, 49, 50, 51, 52, 53, 54, 55, 56, 57, 97, 98, 99, 100, 101, 102, 48, 49, 50, 51, 52, 53, 54, 55, 56, 57, 97, 98, 99, 100, 101, 102])).fst.d (pparse9 (ByteArray.mk #[97, 47, 98, 64, 115, 104, 97, 50, 53, 54, 58, 48, 49, 50, 51, 52, 53, 54, 55, 56, 57, 97, 98, 99, 100, 101, 102, 48, 49, 50, 51, 52, 53, 54, 55, 56, 57, 97, 98, 99, 100, 101, 102, 48, 49, 50, 51, 52, 53, 54, 55, 56, 57, 97, 98, 99, 100, 101, 102, 48, 49, 50, 51, 52, 53, 54, 55, 56, 57, 97, 98, 99, 100, 101, 102])).fst.p (pparse9 (ByteArray.mk #[97, 47, 98, 64, 115, 104, 97, 50, 53, 54, 58, 48, 49, 50, 51, 52, 53, 54, 55, 56, 57, 97, 98, 99, 100, 101, 102, 48, 49, 50, 51, 52, 53, 54, 55, 56, 57, 97, 98, 99, 100, 101, 102, 48, 49, 50, 51, 52, 53, 54, 55, 56, 57, 97, 98, 99, 100, 101, 102, 48, 49, 50, 51, 52, 53, 54, 55, 56, 57, 97, 98, 99, 100, 101, 102])).fst.t (decI (digL (pparse9 (ByteArray.mk #[97, 47, 98, 64, 115, 104, 97, 50, 53, 54, 58, 48, 49, 50, 51, 52, 53, 54, 55, 56, 57, 97, 98, 99, 100, 101, 102, 48, 49, 50, 51, 52, 53, 54, 55, 56, 57, 97, 98, 99, 100, 101, 102, 48, 49, 50, 51, 52, 53, 54, 55, 56, 57, 97, 98, 99, 100, 101, 102, 48, 49, 50, 51, 52, 53, 54, 55, 56, 57, 97, 98, 99, 100, 101, 102])).fst.x)) (pparse9 (ByteArray.mk #[97, 47, 98, 64, 115, 104, 97, 50, 53, 54, 58, 48, 49, 50, 51, 52, 53, 54, 55, 56, 57, 97, 98, 99, 100, 101, 102, 48, 49, 50, 51, 52, 53, 54, 55, 56, 57, 97, 98, 99, 100, 101, 102, 48, 49, 50, 51, 52, 53, 54, 55, 56, 57, 97, 98, 99, 100, 101, 102, 48, 49, 50, 51, 52, 53, 54, 55, 56, 57, 97, 98, 99, 100, 101, 102])).fst.b)) ∧ (bcase (!((pshortS (RefT.mk (pparse9 (ByteArray.mk #[97, 47, 98, 64, 115, 104, 97, 50, 53, 54, 58, 48, 49, 50, 51, 52, 53, 54, 55, 56, 57, 97, 98, 99, 100, 101, 102, 48, 49, 50, 51, 52, 53, 54, 55, 56, 57, 97, 98, 99, 100, 101, 102, 48, 49, 50, 51, 52, 53, 54, 55, 56, 57, 97, 98, 99, 100, 101, 102, 48, 49, 50, 51, 52, 53, 54, 55, 56, 57, 97, 98, 99, 100, 101, 102])).fst.d (pparse9 (ByteArray.mk #[97, 47, 98, 64, 115, 104, 97, 50, 53, 54, 58, 48, 49, 50, 51, 52, 53, 54, 55, 56, 57, 97, 98, 99, 100, 101, 102, 48, 49, 50, 51, 52, 53, 54, 55, 56, 57, 97, 98, 99, 100, 101, 102, 48, 49, 50, 51, 52, 53, 54, 55, 56, 57, 97, 98, 99, 100, 101, 102, 48, 49, 50, 51, 52, 53, 54, 55, 56, 57, 97, 98, 99, 100, 101, 102])).fst.p (pparse9 (ByteArray.mk #[97, 47, 98, 64, 115, 104, 97, 50, 53, 54, 58, 48, 49, 50, 51, 52, 53, 54, 55, 56, 57, 97, 98, 99, 100, 101, 102, 48, 49, 50, 51, 52, 53, 54, 55, 56, 57, 97, 98, 99, 100, 101, 102, 48, 49, 50, 51, 52, 53, 54, 55, 56, 57, 97, 98, 99, 100, 101, 102, 48, 49, 50, 51, 52, 53, 54, 55, 56, 57, 97, 98, 99, 100, 101, 102])).fst.t (decI (digL (pparse9 (ByteArray.mk #[97, 47, 98, 64, 115, 104, 97, 50, 53, 54, 58, 48, 49, 50, 51, 52, 53, 54, 55, 56, 57, 97, 98, 99, 100, 101, 102, 48, 49, 50, 51, 52, 53, 54, 55, 56, 57, 97, 98, 99, 100, 101, 102, 48, 49, 50, 51, 52, 53, 54, 55, 56, 57, 97, 98, 99, 100, 101, 102, 48, 49, 50, 51, 52, 53, 54, 55, 56, 57, 97, 98, 99, 100, 101, 102])).fst.x)) (pparse9 (ByteArray.mk #[97, 47, 98, 64, 115, 104, 97, 50, 53, 54, 58, 48, 49, 50, 51, 52, 53, 54, 55, 56, 57, 97, 98, 99, 100, 101, 102, 48, 49, 50, 51, 52, 53, 54, 55, 56, 57, 97, 98, 99, 100, 101, 102, 48, 49, 50, 51, 52, 53, 54, 55, 56, 57, 97, 98, 99, 100, 101, 102, 48, 49, 50, 51, 52, 53, 54, 55, 56, 57, 97, 98, 99, 100, 101, 102])).fst.b)).toList == (ByteArray.mk #[97, 47, 98, 64, 115, 104, 97, 50, 53, 54, 58, 48, 49, 50, 51, 52, 53, 54, 55, 56, 57, 97, 98, 99, 100, 101, 102, 48, 49, 50, 51, 52, 53, 54, 55, 56, 57, 97, 98, 99, 100, 101, 102, 48, 49, 50, 51, 52, 53, 54, 55, 56, 57, 97, 98, 99, 100, 101, 102, 48, 49, 50, 51, 52, 53, 54, 55, 56, 57, 97, 98, 99, 100, 101, 102]).toList)) (K (.bool false) []) (bcase ((pparse9 (ByteArray.mk #[65])).snd == (10 : Int)) (bcase ((pparse9 (ByteArray.mk #[97, 46, 46, 98])).snd == (10 : Int)) (bcase ((pparse9 (ByteArray.mk #[97, 58])).snd == (10 : Int)) ((RefP (RefT.mk (ByteArray.mk #[100, 111, 99, 107, 101, 114, 46, 105, 111]) (ByteArray.mk #[97, 46, 98, 47, 99]) (ByteArray.mk #[108, 97, 116, 101, 115, 116]) zerosL false)) ∧ (K (.bool ((pshortS (RefT.mk (ByteArray.mk #[100, 111, 99, 107, 101, 114, 46, 105, 111]) (ByteArray.mk #[97, 46, 98, 47, 99]) (ByteArray.mk #[108, 97, 116, 101, 115, 116]) zerosL false)).toList == (ByteArray.mk #[100, 111, 99, 107, 101, 114, 46, 105, 111, 47, 97, 46, 98, 47, 99]).toList)) [])) (K (.bool false) [])) (K (.bool false) [])) (K (.bool false) [])))))))))))))))))))))) (by kernel_rfl) ?_
    simp only [n1, n2, n3, n4, n5, n6]
    simp only [z, z2]
    simp only [n1t, n1s, n3s, n7, p1, p3, p7, bcase_tt, bcase_ff, beq_self_eq_true, Bool.not_true, true_and, bne_self_eq_false]
    exact ⟨by decide, by decide, by decide, by decide, by decide, by decide, hK⟩
  · cases h
end Go.Proofs.YtofcjkbgieenlaaDoor.PM

namespace Go.Proofs.YtofcjkbgieenlaaDoor.PM
open Go Go.Proofs Go.RowKit
set_option maxRecDepth 100000
set_option linter.unusedVariables false
set_option linter.unusedSimpArgs false

/-- Names that the statements speak of. -/
structure RefL (r : RefT) : Prop where
  x : bytesL r.x
  n : r.x.length = 32
theorem RefL.q {r : RefT} (h : RefL r) (h1 : r.d.size ≤ 300) (h2 : r.p.size ≤ 300) (h3 : r.t.size ≤ 300) : RefQ r := ⟨h1, by omega, h3, h.x, h.n⟩
/-- What the program tells is what the reference tells. -/
def SameR (r : RefT) : Prop := checkS r = rcheckS r ∧ ptextS r = rtextS r ∧ pshortS r = rshortS r
def law4G : Pure
  | [.agg ⟨l⟩] => match isRef l with
    | some r => some (RefL r ∧ (r.d.size ≤ 300 → r.p.size ≤ 300 → r.t.size ≤ 300 → SameR r), .bool true)
    | none => none
  | _ => none
theorem eqs (s : ByteArray) : (s.toList == s.toList) = true := beq_self_eq_true _
attribute [local irreducible] checkS rcheckS ptextS rtextS pshortS rshortS
theorem law4_ok : PureOk Tryd.prog 4 law4G := by
  refine .of_run (call := callOf [(8, pureS namedG), (15, pureS (refPG fun r => .int .i64 (checkS r))), (16, pureS rcheckG), (11, pureS (refPG fun r => .string (ptextS r))), (12, pureS (refG fun r => .string (rtextS r))), (13, pureS (refPG fun r => .string (pshortS r))), (14, pureS (refG fun r => .string (rshortS r)))]) (hint := hints 4) (tb := noTab) hm (callOf_cons named_ok.spec (callOf_cons check_ok.spec (callOf_cons rcheck_ok.spec (callOf_cons pText_ok.spec (callOf_cons rtext_ok.spec (callOf_cons short_ok.spec (callOf_cons rshort_ok.spec callOf_nil))))))) Tryd.func4 (by kernel_rfl) rfl (by kernel_rfl) (by repeat' first | exact trivial | constructor |  (intro _ h; cases h)) fun args c r h => ?_
  unfold law4G at h
  split at h
  · rename_i l
    split at h
    · rename_i r hr
      cases h
      refine ⟨by show (plainL l && true) = true; rw [plain_ref hr]; rfl, fun hs => ⟨rfl, 1, fun K hK => ?_⟩⟩
      obtain ⟨h1, h2⟩ := isRef_some hr
      rw [h1]
      have hd := decI_digL h2
      have he : RefT.mk r.d r.p r.t (decI (digL r.x)) r.b = r := by rw [hd]
      have hK := hK []
      refine to (R := bcase (decide ((↑r.d.size : Int) > (300 : Int))) (True ∧ (K (.bool true) [])) (bcase (decide ((↑r.p.size : Int) > (300 : Int))) (True ∧ (K (.bool true) [])) (bcase (decide ((↑r.t.size : Int) > (300 : Int))) (True ∧ (K (.bool true) [])) ((RefP (RefT.mk r.d r.p r.t (decI (digL r.x)) r.b)) ∧ ((RefOk (RefT.mk r.d r.p r.t (decI (digL r.x)) r.b)) ∧ (bcase ((checkS (RefT.mk r.d r.p r.t (decI (digL r.x)) r.b)) == (rcheckS (RefT.mk r.d r.p r.t (decI (digL r.x)) r.b))) ((RefP (RefT.mk r.d r.p r.t (decI (digL r.x)) r.b)) ∧ ((RefOk (RefT.mk r.d r.p r.t (decI (digL r.x)) r.b)) ∧ (bcase ((ptextS (RefT.mk r.d r.p r.t (decI (digL r.x)) r.b)).toList == (rtextS (RefT.mk r.d r.p r.t (decI (digL r.x)) r.b)).toList) ((RefP (RefT.mk r.d r.p r.t (decI (digL r.x)) r.b)) ∧ ((RefOk (RefT.mk r.d r.p r.t (decI (digL r.x)) r.b)) ∧ (bcase ((pshortS (RefT.mk r.d r.p r.t (decI (digL r.x)) r.b)).toList == (rshortS (RefT.mk r.d r.p r.t (decI (digL r.x)) r.b)).toList) (True ∧ (K (.bool true) [])) (K (.bool false) [])))) (K (.bool false) [])))) (K (.bool false) []))))))) (by kernel_rfl) ?_
      simp only [he]
      clear h1 hr hd he
      refine bcase_of (fun _ => ⟨trivial, hK⟩) (fun a => bcase_of (fun _ => ⟨trivial, hK⟩) (fun b => bcase_of (fun _ => ⟨trivial, hK⟩) (fun c => ?_)))
      have a := of_decide_eq_false a
      have b := of_decide_eq_false b
      have c := of_decide_eq_false c
      have q := hs.1.q (by omega) (by omega) (by omega)
      have p := q.toP
      have ok := p.ok
      obtain ⟨e1, e2, e3⟩ := hs.2 (by omega) (by omega) (by omega)
      rw [e1, e2, e3]
      exact ⟨p, ok, bcase_t (beq_self_eq_true _) ⟨p, ok, bcase_t (eqs _) ⟨p, ok, bcase_t (eqs _) ⟨trivial, hK⟩⟩⟩⟩
    · cases h
  · cases h
theorem eqF_self (x : List Int) : ∀ n i, eqF x x n i = true
  | 0, _ => rfl
  | n + 1, i => by unfold eqF; rw [beq_self_eq_true, eqF_self x n (i + 1)]; rfl
theorem eqD_self (x : List Int) : eqD x x = true := eqF_self x 32 0
def law3G : Pure
  | [.string s] => some (s.size < 2 ^ 62 ∧ (s.size ≤ 300 → pparse9 s = rparse12 s ∧ SameR (pparse9 s).1), .bool true)
  | _ => none
attribute [local irreducible] pparse9 rparse12
theorem law3_ok : PureOk Tryd.prog 3 law3G := by
  refine .of_run (call := callOf [(8, pureS namedG), (9, pureS pparse9G), (10, pureS rparse12G), (11, pureS (refPG fun r => .string (ptextS r))), (12, pureS (refG fun r => .string (rtextS r))), (13, pureS (refPG fun r => .string (pshortS r))), (14, pureS (refG fun r => .string (rshortS r)))]) (hint := hints 3) (tb := noTab) hm (callOf_cons named_ok.spec (callOf_cons pparse9_ok.spec (callOf_cons rparse12_ok.spec (callOf_cons pText_ok.spec (callOf_cons rtext_ok.spec (callOf_cons short_ok.spec (callOf_cons rshort_ok.spec callOf_nil))))))) Tryd.func3 (by kernel_rfl) rfl (by kernel_rfl) (by repeat' first | exact trivial | constructor |  (intro _ h; cases h)) fun args c r h => ?_
  unfold law3G at h
  split at h
  · rename_i s
    cases h
    refine ⟨rfl, fun hs => ⟨rfl, 1, fun K hK => ?_⟩⟩
    have hK := hK []
    refine to (R := bcase (decide ((↑s.size : Int) > (300 : Int))) (True ∧ (K (.bool true) [])) ((s.size < 536870912) ∧ ((s.size < 536870912) ∧ (bcase (((pparse9 s).fst.d.toList == (rparse12 s).fst.d.toList) && (((pparse9 s).fst.p.toList == (rparse12 s).fst.p.toList) && (((pparse9 s).fst.t.toList == (rparse12 s).fst.t.toList) && ((eqD (pparse9 s).fst.x (rparse12 s).fst.x) && (((pparse9 s).fst.b == (rparse12 s).fst.b) && true))))) (bcase ((pparse9 s).snd == (rparse12 s).snd) ((RefP (RefT.mk (pparse9 s).fst.d (pparse9 s).fst.p (pparse9 s).fst.t (decI (digL (pparse9 s).fst.x)) (pparse9 s).fst.b)) ∧ ((RefOk (RefT.mk (rparse12 s).fst.d (rparse12 s).fst.p (rparse12 s).fst.t (decI (digL (rparse12 s).fst.x)) (rparse12 s).fst.b)) ∧ (bcase ((ptextS (RefT.mk (pparse9 s).fst.d (pparse9 s).fst.p (pparse9 s).fst.t (decI (digL (pparse9 s).fst.x)) (pparse9 s).fst.b)).toList == (rtextS (RefT.mk (rparse12 s).fst.d (rparse12 s).fst.p (rparse12 s).fst.t (decI (digL (rparse12 s).fst.x)) (rparse12 s).fst.b)).toList) ((RefP (RefT.mk (pparse9 s).fst.d (pparse9 s).fst.p (pparse9 s).fst.t (decI (digL (pparse9 s).fst.x)) (pparse9 s).fst.b)) ∧ ((RefOk (RefT.mk (rparse12 s).fst.d (rparse12 s).fst.p (rparse12 s).fst.t (decI (digL (rparse12 s).fst.x)) (rparse12 s).fst.b)) ∧ (bcase ((pshortS (RefT.mk (pparse9 s).fst.d (pparse9 s).fst.p (pparse9 s).fst.t (decI (digL (pparse9 s).fst.x)) (pparse9 s).fst.b)).toList == (rshortS (RefT.mk (rparse12 s).fst.d (rparse12 s).fst.p (rparse12 s).fst.t (decI (digL (rparse12 s).fst.x)) (rparse12 s).fst.b)).toList) (True ∧ (K (.bool true) [])) (K (.bool false) [])))) (K (.bool false) [])))) (K (.bool false) [])) (K (.bool false) []))))) (by kernel_rfl) ?_
    refine bcase_of (fun _ => ⟨trivial, hK⟩) (fun a => ?_)
    have a := of_decide_eq_false a
    obtain ⟨e, e1, e2, e3⟩ := hs.2 (by omega)
    have q := pparse9_q s
    have p := q.toP
    have ok := p.ok
    have he : RefT.mk (pparse9 s).1.d (pparse9 s).1.p (pparse9 s).1.t (decI (digL (pparse9 s).1.x)) (pparse9 s).1.b = (pparse9 s).1 := by rw [decI_digL q.n]
    simp only [← e, he, e2, e3]
    have hc : (((pparse9 s).1.d.toList == (pparse9 s).1.d.toList) && (((pparse9 s).1.p.toList == (pparse9 s).1.p.toList) && (((pparse9 s).1.t.toList == (pparse9 s).1.t.toList) && ((eqD (pparse9 s).1.x (pparse9 s).1.x) && (((pparse9 s).1.b == (pparse9 s).1.b) && true))))) = true := by
      rw [eqs, eqs, eqs, eqD_self, beq_self_eq_true]
      rfl
    exact ⟨by omega, by omega, bcase_t hc (bcase_t (beq_self_eq_true _) ⟨p, ok, bcase_t (eqs _) ⟨p, ok, bcase_t (eqs _) ⟨trivial, hK⟩⟩⟩)⟩
  · cases h
end Go.Proofs.YtofcjkbgieenlaaDoor.PM

namespace Go.Proofs.YtofcjkbgieenlaaDoor.PM
open Go Go.Proofs Go.Proofs.YtofcjkbgieenlaaDoor.Hand
set_option linter.unusedVariables false
set_option maxRecDepth 100000
set_option linter.unusedSimpArgs false

theorem splitB_spl (c : UInt8) : ∀ l, splitB c l = spl c l
  | [] => rfl
  | b :: l => by
    unfold splitB spl
    rw [splitB_spl c l]
    split
    · rfl
    · cases spl c l <;> rfl
theorem splitS_cut (c : UInt8) (s : ByteArray) : splitS c s = cutAll s (c.toNat : Int) := by
  rw [cutAll_spl]
  unfold splitS
  rw [splitB_spl]
  rfl
theorem all_range {n : Nat} {p : Nat → Bool} : (List.range' 0 n).all p = true ↔ ∀ j, j < n → p j = true := by
  rw [List.all_eq_true]
  constructor
  · intro h j hj
    exact h j (by rw [List.mem_range']; exact ⟨j, hj, by omega⟩)
  · intro h x hx
    rw [List.mem_range'] at hx
    obtain ⟨i, hi, rfl⟩ := hx
    exact h _ (by omega)
theorem bt_byte (s : ByteArray) (j : Int) : ∃ n : Nat, n < 256 ∧ bt s j = (n : Int) := ⟨_, (s.data.toList.getD j.toNat 0).toNat_lt, rfl⟩
theorem ofS_iff (s t : ByteArray) : ofS s t = true ↔ ∀ j, j < s.size → someOf t (bt s j) 0 t.size = true := all_range
/-- What the tables hold. -/
def allP (c : Int) : Bool := letterB c || (digitB c || c == 45)
def tagP (c : Int) : Bool := letterB c || (digitB c || (c == 95 || (c == 46 || c == 45)))
def partQ (c : Int) : Bool := wb c || (c == 46 || (c == 95 || c == 45))
theorem allT_cls : ((List.range 256).all fun n => someOf allT (n : Int) 0 allT.size == allP n) = true := by kernel_rfl
theorem tagT_cls : ((List.range 256).all fun n => someOf tagT (n : Int) 0 tagT.size == tagP n) = true := by kernel_rfl
theorem tenT_cls : ((List.range 256).all fun n => someOf tenT (n : Int) 0 tenT.size == digitB n) = true := by kernel_rfl
theorem wordT_cls : ((List.range 256).all fun n => someOf wordT (n : Int) 0 wordT.size == wb n) = true := by kernel_rfl
theorem partT_cls : ((List.range 256).all fun n => someOf partT (n : Int) 0 partT.size == partQ n) = true := by kernel_rfl
theorem cls {T : ByteArray} {p : Int → Bool} (h : ((List.range 256).all fun n => someOf T (n : Int) 0 T.size == p n) = true) (s : ByteArray) (j : Int) : someOf T (bt s j) 0 T.size = p (bt s j) := by
  obtain ⟨n, hn, e⟩ := bt_byte s j
  rw [e]
  exact beq_iff_eq.1 (List.all_eq_true.1 h n (List.mem_range.2 hn))
theorem labelB_bad (x : ByteArray) : labelB x = !badLabel x := by
  rw [Bool.eq_iff_iff]
  have hof := ofS_iff x allT
  have key : labelB x = true ↔ (∀ j, j < x.size → labelAt x (j : Int) = true) ∧ x.size ≠ 0 := by
    unfold labelB labelFrom
    rw [Bool.and_eq_true, all_range]
    simp
  rw [key]
  unfold badLabel
  simp only [Bool.not_eq_true', Bool.or_eq_false_iff, beq_eq_false_iff_ne, ne_eq, Bool.not_eq_false']
  rw [hof]
  constructor
  · rintro ⟨h1, h2⟩
    have hl : ∀ j, j < x.size → (letterB (bt x j) || digitB (bt x j)) = true ∨ (bt x j = 45 ∧ j ≠ 0 ∧ j ≠ x.size - 1) := fun j hj => by
      have := h1 j hj
      unfold labelAt at this
      rw [Bool.or_eq_true] at this
      rcases this with h | h
      · exact .inl h
      · simp at h
        exact .inr ⟨h.1.1, by omega, by omega⟩
    have no45 : ∀ c : Int, c = 45 → ¬ (letterB c || digitB c) = true := fun c e => by subst e; decide
    refine ⟨by omega, fun j hj => ?_, ?_, ?_⟩
    · rw [cls (p := allP) allT_cls]
      unfold allP
      rcases hl j hj with h | ⟨h, _⟩
      · rw [← Bool.or_assoc, h]; rfl
      · rw [h]; rfl
    · intro h
      rcases hl 0 (by omega) with h3 | ⟨_, h3, _⟩
      · exact no45 _ h h3
      · exact h3 rfl
    · intro h
      rcases hl (x.size - 1) (by omega) with h3 | ⟨_, _, h3⟩
      · exact no45 _ h h3
      · exact h3 rfl
  · rintro ⟨h1, h2, h3, h4⟩
    refine ⟨fun j hj => ?_, by omega⟩
    have := h2 j hj
    rw [cls (p := allP) allT_cls] at this
    unfold allP at this
    unfold labelAt
    rw [← Bool.or_assoc, Bool.or_eq_true] at this
    rcases this with h | h
    · rw [h]; rfl
    · rw [beq_iff_eq] at h
      have j0 : j ≠ 0 := fun e => by subst e; exact h3 h
      have j1 : j ≠ x.size - 1 := fun e => by subst e; exact h4 h
      simp only [Bool.or_eq_true]
      right
      simp [h]
      omega
theorem tagFrom_all (s : ByteArray) : ∀ d i, tagFrom s d i = (List.range' i d).all fun j => !tagBad (bt s j) j
  | 0, i => by unfold tagFrom; rfl
  | d + 1, i => by
    unfold tagFrom
    rw [List.range'_succ, List.all_cons, tagFrom_all s d (i + 1)]
    cases tagBad (bt s i) i <;> rfl
theorem tagS_ref (t : ByteArray) (h0 : isS t [] = false) : tagS t = !(decide ((t.size : Int) > 32) || (!ofS t tagT || (bt t 0 == 46 || bt t 0 == 45))) := by
  have hne : t.size ≠ 0 := fun e => by
    have := toList_empty t
    rw [show (t.toList == (ByteArray.mk #[]).toList) = false from h0, e] at this
    cases this
  unfold tagS
  rw [h0, Bool.eq_iff_iff, Bool.and_eq_true, tagFrom_all, all_range]
  simp only [Bool.not_false, Bool.true_and, decide_eq_true_eq, Bool.not_eq_true', Bool.or_eq_false_iff, decide_eq_false_iff_not, Bool.not_eq_false', beq_eq_false_iff_ne, ne_eq]
  rw [ofS_iff]
  have bad : ∀ c i : Int, tagBad c i = false ↔ (letterB c || (digitB c || c == 95)) = true ∨ (i ≠ 0 ∧ (c = 46 ∨ c = 45)) := fun c i => by
    unfold tagBad
    cases letterB c <;> cases digitB c <;> simp <;> (by_cases h1 : c = 95 <;> by_cases h2 : i = 0 <;> by_cases h3 : c = 46 <;> by_cases h4 : c = 45 <;> simp_all)
  constructor
  · rintro ⟨h1, h2⟩
    have h1' : ∀ j : Nat, j < t.size → (letterB (bt t j) || (digitB (bt t j) || bt t j == 95)) = true ∨ ((j : Int) ≠ 0 ∧ (bt t j = 46 ∨ bt t j = 45)) := fun j hj => (bad (bt t j) j).1 (h1 j hj)
    refine ⟨by omega, fun j hj => ?_, ?_, ?_⟩
    · rw [cls (p := tagP) tagT_cls]
      unfold tagP
      rcases h1' j hj with h | ⟨_, h | h⟩
      · rcases Bool.or_eq_true _ _ ▸ h with h | h
        · rw [h]; rfl
        · rcases Bool.or_eq_true _ _ ▸ h with h | h
          · rw [h]; simp
          · rw [h]; simp
      · rw [h]; rfl
      · rw [h]; rfl
    · intro e
      rcases h1' 0 (by omega) with h | ⟨h, _⟩
      · have e' : bt t ((0 : Nat) : Int) = 46 := e
        rw [e'] at h; exact absurd h (by decide)
      · exact h rfl
    · intro e
      rcases h1' 0 (by omega) with h | ⟨h, _⟩
      · have e' : bt t ((0 : Nat) : Int) = 45 := e
        rw [e'] at h; exact absurd h (by decide)
      · exact h rfl
  · rintro ⟨h1, h2, h3, h4⟩
    refine ⟨fun j hj => (bad _ _).2 ?_, by omega⟩
    have := h2 j hj
    rw [cls (p := tagP) tagT_cls] at this
    unfold tagP at this
    have hz : (j : Int) = 0 → bt t j = bt t 0 := fun e => by rw [e]
    by_cases e1 : bt t (j : Int) = 46
    · exact .inr ⟨fun e => h3 (by rw [← hz e]; exact e1), .inl e1⟩
    · by_cases e2 : bt t (j : Int) = 45
      · exact .inr ⟨fun e => h4 (by rw [← hz e]; exact e2), .inr e2⟩
      · left
        simpa [e1, e2] using this
end Go.Proofs.YtofcjkbgieenlaaDoor.PM

namespace Go.Proofs.YtofcjkbgieenlaaDoor.PM
open Go Go.Proofs Go.Proofs.YtofcjkbgieenlaaDoor.Hand
set_option maxRecDepth 100000
set_option linter.unusedVariables false
set_option linter.unusedSimpArgs false

theorem cutAll_cut (s : ByteArray) (c : UInt8) : cutAll s (c.toNat : Int) = bif cutF s c then cutA s c :: cutAll (cutZ s c) (c.toNat : Int) else [cutA s c] := by
  rw [← splitS_cut, ← splitS_cut]
  have hr := indexByte_le c s.data.toList
  unfold cutF cutA cutZ cutF
  by_cases h : Lib.indexByte s.data.toList c ≥ 0
  · obtain ⟨i, hi⟩ : ∃ i : Nat, Lib.indexByte s.data.toList c = (i : Int) := ⟨(Lib.indexByte s.data.toList c).toNat, by omega⟩
    rw [decide_eq_true h]
    simp only [cond_true]
    rw [splitS_some hi, hi, Int.toNat_natCast]
  · have hn : Lib.indexByte s.data.toList c = -1 := by omega
    rw [decide_eq_false h]
    simp only [cond_false]
    rw [splitS_none hn]
theorem labels_all (l : List ByteArray) : ∀ d i, i + d = l.length → labels l d i = (l.drop i).all fun x => !badLabel x
  | 0, i, h => by rw [List.drop_of_length_le (by omega)]; rfl
  | d + 1, i, h => by
    have hi : i < l.length := by omega
    unfold labels
    rw [labels_all l d (i + 1) (by omega), List.drop_eq_getElem_cons hi, List.all_cons, List.getD_eq_getElem?_getD, List.getElem?_eq_getElem hi, Option.getD_some]
    cases badLabel l[i] <;> rfl
theorem pathAll_all (l : List ByteArray) : ∀ d i, i + d = l.length → pathAll l d i = (l.drop i).all partS
  | 0, i, h => by rw [List.drop_of_length_le (by omega)]; rfl
  | d + 1, i, h => by
    have hi : i < l.length := by omega
    unfold pathAll
    rw [pathAll_all l d (i + 1) (by omega), List.drop_eq_getElem_cons hi, List.all_cons, List.getD_eq_getElem?_getD, List.getElem?_eq_getElem hi, Option.getD_some]
    cases partS l[i] <;> rfl
theorem dropWhile_nil {p : UInt8 → Bool} {l : List UInt8} : l.dropWhile p = [] ↔ ∀ x ∈ l, p x = true := by
  induction l with
  | nil => simp
  | cons a l ih =>
    rw [List.dropWhile_cons]
    cases h : p a with
    | true => simp [ih, h]
    | false => simp [h]
theorem trimS_nil (l cs : List UInt8) : Lib.trimS l cs = [] ↔ ∀ x ∈ l, cs.contains x = true := by
  unfold Lib.trimS Lib.trimLeftS
  rw [dropWhile_nil]
  unfold Lib.trimRightS
  have e : l = ((l.reverse.dropWhile (cs.contains ·)).reverse) ++ ((l.reverse.takeWhile (cs.contains ·)).reverse) := by
    rw [← List.reverse_append, List.takeWhile_append_dropWhile, List.reverse_reverse]
  constructor
  · intro h x hx
    rw [e] at hx
    rcases List.mem_append.1 hx with hx | hx
    · exact h x hx
    · rw [List.mem_reverse] at hx
      exact (List.all_eq_true.1 List.all_takeWhile) x hx
  · intro h x hx
    exact h x (by rw [e]; exact List.mem_append_left _ hx)
theorem ten_cls : ((List.range 256).all fun n => digits10.data.toList.contains (UInt8.ofNat n) == digitB n) = true := by kernel_rfl
theorem ten_byte (b : UInt8) : digits10.data.toList.contains b = digitB (b.toNat : Int) := by
  have := beq_iff_eq.1 (List.all_eq_true.1 ten_cls b.toNat (List.mem_range.2 b.toNat_lt))
  simpa using this
theorem ofS_bytes {T : ByteArray} {p : Int → Bool} (h : ((List.range 256).all fun n => someOf T (n : Int) 0 T.size == p n) = true) (s : ByteArray) : ofS s T = true ↔ ∀ b ∈ li s, p (b.toNat : Int) = true := by
  rw [ofS_iff]
  constructor
  · intro hs b hb
    obtain ⟨j, hj, e⟩ := List.getElem_of_mem hb
    have := hs j (by rw [← li_size]; exact hj)
    rw [cls h, bt_li, Int.toNat_natCast, List.getD_eq_getElem?_getD, List.getElem?_eq_getElem hj, Option.getD_some, e] at this
    exact this
  · intro hs j hj
    have hj' : j < (li s).length := by rw [li_size]; exact hj
    rw [cls h, bt_li, Int.toNat_natCast, List.getD_eq_getElem?_getD, List.getElem?_eq_getElem hj', Option.getD_some]
    exact hs _ (List.getElem_mem hj')
theorem isS_nil (s : ByteArray) : isS s [] = true ↔ li s = [] := by
  rw [show isS s [] = (s.toList == (ByteArray.mk #[]).toList) from rfl, toList_empty, beq_iff_eq, ← li_size, List.length_eq_zero_iff]
theorem portS_ref (z : ByteArray) : portS z = !(isS z [] || (decide ((z.size : Int) > 5) || !ofS z tenT)) := by
  have h1 : isS ⟨(Lib.trimS z.data.toList digits10.data.toList).toArray⟩ [] = ofS z tenT := by
    rw [Bool.eq_iff_iff, isS_nil, ofS_bytes tenT_cls]
    show Lib.trimS (li z) digits10.data.toList = [] ↔ _
    rw [trimS_nil]
    constructor
    · intro h b hb; rw [← ten_byte]; exact h b hb
    · intro h b hb; rw [ten_byte]; exact h b hb
  have h2 : isS z [] = !decide ((z.size : Int) ≥ 1) := by
    rw [show isS z [] = (z.toList == (ByteArray.mk #[]).toList) from rfl, toList_empty]
    by_cases h : z.size = 0
    · rw [h]; rfl
    · rw [beq_eq_false_iff_ne.2 h, decide_eq_true (by omega)]; rfl
  unfold portS
  rw [h1, h2]
  by_cases h : (z.size : Int) ≤ 5
  · rw [decide_eq_true h, decide_eq_false (by omega : ¬ (z.size : Int) > 5)]
    cases decide ((z.size : Int) ≥ 1) <;> cases ofS z tenT <;> rfl
  · rw [decide_eq_false h, decide_eq_true (by omega : (z.size : Int) > 5)]
    cases decide ((z.size : Int) ≥ 1) <;> cases ofS z tenT <;> rfl
theorem cutF_mem {s : ByteArray} {c : UInt8} (h : cutF s c = true) : c ∈ li s := by
  unfold cutF at h
  have h := of_decide_eq_true h
  have key : ∀ l : List UInt8, Lib.indexByte l c ≥ 0 → c ∈ l := fun l => by
    induction l with
    | nil => intro h; simp [Lib.indexByte] at h
    | cons a l ih =>
      intro h
      have e : Lib.indexByte (a :: l) c = if a == c then 0 else if Lib.indexByte l c == -1 then -1 else Lib.indexByte l c + 1 := rfl
      rw [e] at h
      have hr := indexByte_le c l
      cases ha : a == c with
      | true => rw [beq_iff_eq.1 ha]; exact List.mem_cons_self
      | false =>
        rw [ha] at h
        simp only [Bool.false_eq_true, if_false] at h
        by_cases hn : Lib.indexByte l c = -1
        · rw [hn] at h; simp at h
        · exact List.mem_cons_of_mem _ (ih (by omega))
  exact key _ h
theorem cutA_none {s : ByteArray} {c : UInt8} (h : cutF s c = false) : cutA s c = s := by
  unfold cutA
  rw [h]
  rfl
theorem domain_same (s : ByteArray) : domainPS s = domainS s := by
  have e := cutAll_cut s 58
  have hlab : ∀ x : ByteArray, labels (cutAll x 46) (cutAll x 46).length 0 = (splitS 46 x).all labelB := fun x => by
    rw [labels_all _ _ _ (Nat.zero_add _), List.drop_zero, splitS_cut 46 x]
    congr 1
    funext y
    rw [labelB_bad]
  unfold domainPS domainS
  rw [show ((58 : UInt8).toNat : Int) = 58 from rfl] at e
  rw [e]
  cases hf : cutF s 58 with
  | false =>
    simp only [cond_false, Bool.false_and, List.length_singleton, List.getD_cons_zero]
    rw [hlab]
    rfl
  | true =>
    have e2 := cutAll_cut (cutZ s 58) 58
    rw [show ((58 : UInt8).toNat : Int) = 58 from rfl] at e2
    simp only [cond_true, Bool.true_and, List.length_cons, List.getD_cons_zero, List.getD_cons_succ]
    rw [hlab, portS_ref, e2]
    cases hg : cutF (cutZ s 58) 58 with
    | false =>
      rw [cutA_none hg]
      simp only [cond_false, List.length_singleton, List.getD_cons_zero, Bool.not_not]
      rfl
    | true =>
      have hlen := (cutAll_len (cutZ (cutZ s 58) 58) 58).1
      have hbad : ofS (cutZ s 58) tenT = false := by
        cases h : ofS (cutZ s 58) tenT with
        | false => rfl
        | true => exact absurd ((ofS_bytes tenT_cls _).1 h 58 (cutF_mem hg)) (by decide)
      rw [hbad]
      simp only [cond_true, List.length_cons, Bool.not_false, Bool.or_true, Bool.not_true]
      rw [decide_eq_true (by omega : (((cutAll (cutZ (cutZ s 58) 58) 58).length + 1 + 1 : Nat) : Int) > 2)]
      rfl
end Go.Proofs.YtofcjkbgieenlaaDoor.PM

namespace Go.Proofs.YtofcjkbgieenlaaDoor.PM
open Go Go.Proofs Go.Proofs.YtofcjkbgieenlaaDoor.Hand
set_option maxRecDepth 100000
set_option linter.unusedVariables false
set_option linter.unusedSimpArgs false

/-- Is a byte one of a word? -/
def Wb (b : UInt8) : Bool := wb (b.toNat : Int)
def headW : List UInt8 → Bool
  | [] => false
  | b :: _ => Wb b
theorem drop_tw (p : UInt8 → Bool) : ∀ l : List UInt8, l.drop (l.takeWhile p).length = l.dropWhile p
  | [] => rfl
  | a :: l => by
    rw [List.takeWhile_cons, List.dropWhile_cons]
    cases h : p a with
    | true => simp [drop_tw p l]
    | false => simp
theorem wordN_tw (s : ByteArray) : ∀ d i, i + d = s.size → wordN s d i = i + (((li s).drop i).takeWhile Wb).length
  | 0, i, h => by
    rw [List.drop_of_length_le (by rw [li_size]; omega)]
    rfl
  | d + 1, i, h => by
    have hi : i < (li s).length := by rw [li_size]; omega
    have hb : bt s (i : Int) = (((li s)[i]).toNat : Int) := by
      rw [bt_li, Int.toNat_natCast, List.getD_eq_getElem?_getD, List.getElem?_eq_getElem hi]; rfl
    unfold wordN
    rw [List.drop_eq_getElem_cons hi, List.takeWhile_cons, hb, wordN_tw s d (i + 1) (by omega)]
    unfold Wb
    cases wb (((li s)[i]).toNat : Int) with
    | true => simp only [cond_true, if_true, List.length_cons]; omega
    | false => simp
theorem wordEnd_tw (s : ByteArray) : wordEnd s = ((li s).takeWhile Wb).length := by
  unfold wordEnd
  rw [wordN_tw s s.size 0 (Nat.zero_add _), List.drop_zero, Nat.zero_add]
theorem li_wordR (s : ByteArray) : li (wordR s) = (li s).dropWhile Wb := by
  unfold wordR
  rw [li_extract, List.take_of_length_le (by rw [li_size]; exact Nat.le_refl _), wordEnd_tw, drop_tw]
theorem wordB_head (s : ByteArray) : decide ((wordEnd s : Int) > 0) = headW (li s) := by
  rw [wordEnd_tw]
  cases li s with
  | nil => rfl
  | cons a l =>
    rw [List.takeWhile_cons]
    unfold headW
    cases h : Wb a with
    | true => simp [h]
    | false => simp [h]
/-- What parts two words. -/
def partedL (l : List UInt8) : List UInt8 × Bool :=
  let t := l.dropWhile (· == 45)
  bif decide (t.length < l.length) then (t, true) else
  bif List.isPrefixOf [46] l then (l.drop 1, true) else
  bif List.isPrefixOf [95, 95] l then (l.drop 2, true) else
  bif List.isPrefixOf [95] l then (l.drop 1, true) else (l, false)
theorem partedS_list (s : ByteArray) : li (partedS s).1 = (partedL (li s)).1 ∧ (partedS s).2 = (partedL (li s)).2 := by
  have hl : ∀ p : List UInt8, Lib.hasPrefix s.data.toList p = List.isPrefixOf p (li s) := fun p => rfl
  have h1 : decide (((ByteArray.mk (Lib.trimLeftB s.data.toList 45).toArray).size : Int) < s.size) = decide (((li s).dropWhile (· == 45)).length < (li s).length) := by
    rw [mk_size, ← li_size s]
    exact decide_eq_decide.2 (by show ((((li s).dropWhile (· == 45)).length : Int) < _) ↔ _; omega)
  unfold partedS partedL
  simp only [h1, hl]
  cases decide (((li s).dropWhile (· == 45)).length < (li s).length) with
  | true => exact ⟨rfl, rfl⟩
  | false =>
    simp only [cond_false]
    cases hp : List.isPrefixOf [46] (li s) with
    | true => exact ⟨by show Lib.trimPrefix s.data.toList [46] = _; unfold Lib.trimPrefix; rw [hl, hp]; rfl, rfl⟩
    | false =>
      simp only [cond_false]
      cases hq : List.isPrefixOf [95, 95] (li s) with
      | true => exact ⟨by show Lib.trimPrefix s.data.toList [95, 95] = _; unfold Lib.trimPrefix; rw [hl, hq]; rfl, rfl⟩
      | false =>
        simp only [cond_false]
        cases hr : List.isPrefixOf [95] (li s) with
        | true => exact ⟨by show Lib.trimPrefix s.data.toList [95] = _; unfold Lib.trimPrefix; rw [hl, hr]; rfl, rfl⟩
        | false => exact ⟨rfl, rfl⟩
def pL : Nat → List UInt8 → Bool → Bool
  | 0, _, ok => ok
  | d + 1, l, ok => bif ok && !l.isEmpty then (bif (partedL l).2 then pL d ((partedL l).1.dropWhile Wb) (headW (partedL l).1) else false) else ok
theorem partP_list : ∀ (d : Nat) (s : ByteArray) (ok : Bool), partP d s ok = pL d (li s) ok
  | 0, s, ok => by unfold partP; rfl
  | d + 1, s, ok => by
    unfold partP pL
    obtain ⟨e1, e2⟩ := partedS_list s
    have hn : isS s [] = (li s).isEmpty := by
      rw [Bool.eq_iff_iff, isS_nil, List.isEmpty_iff]
    rw [hn, e2, partP_list d, li_wordR, wordB_head, e1]
theorem partPS_list (s : ByteArray) : partPS s = pL s.size ((li s).dropWhile Wb) (headW (li s)) := by
  unfold partPS
  rw [partP_list, li_wordR, wordB_head]
/-! ### Both against one automaton -/
def okGap (g : List UInt8) : Bool := !badGap (ofL g)
theorem dash_cls : ((List.range 256).all fun n => someOf ⟨#[45]⟩ (n : Int) 0 (ByteArray.mk #[45]).size == ((n : Int) == 45)) = true := by kernel_rfl
theorem isS_list (g l : List UInt8) : isS (ofL g) l = true ↔ g = l := by
  rw [show isS (ofL g) l = ((ofL g).toList == (ByteArray.mk l.toArray).toList) from rfl, eq_iff, decide_eq_true_eq]
  constructor
  · intro h
    have := congrArg li h
    exact this
  · rintro rfl; rfl
theorem okGap_iff (g : List UInt8) : okGap g = true ↔ g = [] ∨ g = [46] ∨ g = [95] ∨ g = [95, 95] ∨ ∀ x ∈ g, x = 45 := by
  have hd : ofS (ofL g) ⟨#[45]⟩ = true ↔ ∀ x ∈ g, x = 45 := by
    rw [ofS_bytes (p := fun c => c == 45) dash_cls]
    constructor
    · intro h x hx
      have := beq_iff_eq.1 (h x hx)
      exact UInt8.toNat_inj.1 (by show x.toNat = 45; omega)
    · intro h x hx
      rw [h x hx]; rfl
  have h0 := isS_list g []
  have h1 := isS_list g [46]
  have h2 := isS_list g [95]
  have h3 := isS_list g [95, 95]
  unfold okGap badGap
  rw [← h0, ← h1, ← h2, ← h3, ← hd]
  cases isS (ofL g) [] <;> cases isS (ofL g) [46] <;> cases isS (ofL g) [95] <;> cases isS (ofL g) [95, 95] <;> cases ofS (ofL g) ⟨#[45]⟩ <;> simp
def pQ (b : UInt8) : Bool := partQ (b.toNat : Int)
def A : List UInt8 → List UInt8 → Bool
  | [], g => g.isEmpty
  | a :: l, g => bif Wb a then okGap g && A l [] else pQ a && A l (g ++ [a])
def R : List UInt8 → List UInt8 → Bool
  | [], _ => true
  | a :: l, g => bif !Wb a then R l (g ++ [a]) else bif badGap (ofL g) then false else R l []
def lastOK (l g : List UInt8) : Bool := match l.getLast? with
  | none => g.isEmpty
  | some b => Wb b
theorem W_pQ {a : UInt8} (h : Wb a = true) : pQ a = true := by
  unfold pQ partQ
  rw [show wb (a.toNat : Int) = true from h]
  rfl
theorem last_cons (a : UInt8) (l g g' : List UInt8) : lastOK (a :: l) g = bif l.isEmpty then Wb a else lastOK l g' := by
  cases l with
  | nil => rfl
  | cons b l =>
    unfold lastOK
    rw [List.getLast?_cons_cons]
    cases h : (b :: l).getLast? with
    | none => simp at h
    | some c => rfl
theorem A_ref : ∀ l g : List UInt8, A l g = (l.all pQ && (lastOK l g && R l g))
  | [], g => by simp [A, R, lastOK]
  | a :: l, g => by
    unfold A R
    cases hw : Wb a with
    | true =>
      rw [A_ref l [], last_cons a l g [], List.all_cons, W_pQ hw, hw]
      simp only [cond_true, Bool.not_true, cond_false, Bool.true_and]
      unfold okGap
      cases l with
      | nil => cases badGap (ofL g) <;> rfl
      | cons b l =>
        cases badGap (ofL g) <;> simp
    | false =>
      rw [A_ref l (g ++ [a]), last_cons a l g (g ++ [a]), List.all_cons, hw]
      simp only [cond_false, Bool.not_false, cond_true]
      cases l with
      | nil => cases pQ a <;> simp [lastOK]
      | cons b l => cases pQ a <;> simp
theorem A_gap : ∀ (g h r : List UInt8), (∀ x ∈ g, Wb x = false) → A (g ++ r) h = (g.all pQ && A r (h ++ g))
  | [], h, r, _ => by simp
  | a :: g, h, r, hn => by
    have hw := hn a List.mem_cons_self
    rw [List.cons_append, A, hw, cond_false, A_gap g (h ++ [a]) r (fun x hx => hn x (List.mem_cons_of_mem _ hx)), List.all_cons, Bool.and_assoc, List.append_assoc]
    rfl
theorem A_words : ∀ r : List UInt8, A (r.dropWhile Wb) [] = A r []
  | [] => rfl
  | a :: r => by
    rw [List.dropWhile_cons]
    cases hw : Wb a with
    | true =>
      have e : okGap [] = true := (okGap_iff []).2 (.inl rfl)
      simp only [if_true]
      rw [A_words r, A, hw, cond_true, e, Bool.true_and]
    | false => simp
theorem dw_head : ∀ (g r : List UInt8), (∀ x ∈ g, Wb x = false) → (¬ ∀ x ∈ g, x = 45) → headW ((g ++ r).dropWhile (· == 45)) = false
  | [], r, _, h => absurd (fun _ hx => absurd hx List.not_mem_nil) h
  | a :: g, r, hn, h => by
    rw [List.cons_append, List.dropWhile_cons]
    cases ha : a == 45 with
    | true =>
      simp only [if_true]
      refine dw_head g r (fun x hx => hn x (List.mem_cons_of_mem _ hx)) (fun hall => h fun x hx => ?_)
      rcases List.mem_cons.1 hx with rfl | hx
      · exact beq_iff_eq.1 ha
      · exact hall x hx
    | false =>
      simp only [Bool.false_eq_true, if_false]
      exact hn a List.mem_cons_self
theorem dw_all : ∀ (g r : List UInt8), (∀ x ∈ g, x = 45) → (g ++ r).dropWhile (· == 45) = r.dropWhile (· == 45)
  | [], r, _ => rfl
  | a :: g, r, h => by
    rw [List.cons_append, List.dropWhile_cons, h a List.mem_cons_self]
    simp only [beq_self_eq_true, if_true]
    exact dw_all g r fun x hx => h x (List.mem_cons_of_mem _ hx)
theorem headW_app {g r : List UInt8} (hg : g ≠ []) (hn : ∀ x ∈ g, Wb x = false) : headW (g ++ r) = false := by
  cases g with
  | nil => exact absurd rfl hg
  | cons a g => exact hn a List.mem_cons_self
theorem dw_word {r : List UInt8} (h : r = [] ∨ headW r = true) : r.dropWhile (· == 45) = r := by
  cases r with
  | nil => rfl
  | cons b r =>
    rcases h with h | h
    · cases h
    · rw [List.dropWhile_cons]
      have : (b == 45) = false := by
        rw [beq_eq_false_iff_ne]
        rintro rfl
        have h' : Wb 45 = true := h
        exact absurd h' (by decide)
      rw [this]
      rfl
theorem gap_parted (g r : List UInt8) (hg : g ≠ []) (hn : ∀ x ∈ g, Wb x = false) (hr : r = [] ∨ headW r = true) :
    (okGap g = true → partedL (g ++ r) = (r, true)) ∧ (okGap g = false → (partedL (g ++ r)).2 = true → headW (partedL (g ++ r)).1 = false) := by
  have ok := okGap_iff g
  cases g with
  | nil => exact absurd rfl hg
  | cons a g =>
    have hn' : ∀ x ∈ g, Wb x = false := fun x hx => hn x (List.mem_cons_of_mem _ hx)
    by_cases ha : a = 45
    · subst ha
      have hlt : decide ((((45 :: g) ++ r).dropWhile (· == 45)).length < ((45 :: g) ++ r).length) = true := by
        refine decide_eq_true ?_
        rw [List.cons_append, List.dropWhile_cons]
        simp only [beq_self_eq_true, if_true, List.length_cons]
        have := (List.dropWhile_sublist (· == 45) (l := g ++ r)).length_le
        omega
      have e : partedL ((45 :: g) ++ r) = (((45 :: g) ++ r).dropWhile (· == 45), true) := by
        unfold partedL
        simp only [hlt, cond_true]
      rw [e]
      refine ⟨fun h => ?_, fun h _ => dw_head _ r hn fun hall => ?_⟩
      · rcases ok.1 h with h | h | h | h | h
        · cases h
        · cases h
        · cases h
        · cases h
        · rw [dw_all _ r h, dw_word hr]
      · rw [ok.2 (.inr (.inr (.inr (.inr hall))))] at h
        cases h
    · have hne : (a == 45) = false := beq_eq_false_iff_ne.2 ha
      have hdw : (a :: (g ++ r)).dropWhile (· == 45) = a :: (g ++ r) := by
        rw [List.dropWhile_cons, hne]; rfl
      have notall : ¬ ∀ x ∈ a :: g, x = 45 := fun h => ha (h a List.mem_cons_self)
      have e : partedL ((a :: g) ++ r) = bif List.isPrefixOf [46] (a :: (g ++ r)) then (g ++ r, true) else
          bif List.isPrefixOf [95, 95] (a :: (g ++ r)) then ((g ++ r).drop 1, true) else bif List.isPrefixOf [95] (a :: (g ++ r)) then (g ++ r, true) else (a :: (g ++ r), false) := by
        rw [List.cons_append]
        unfold partedL
        simp only [hdw, Nat.lt_irrefl, decide_false, cond_false, List.drop_succ_cons, List.drop_zero]
      rw [e]
      by_cases h46 : a = 46
      · subst h46
        simp only [List.isPrefixOf, beq_self_eq_true, Bool.true_and, cond_true]
        refine ⟨fun h => ?_, fun h _ => headW_app (fun eg => ?_) hn'⟩
        · rcases ok.1 h with h | h | h | h | h
          · cases h
          · rw [show g = [] by simpa using h]; rfl
          · cases h
          · cases h
          · exact absurd h notall
        · subst eg
          rw [ok.2 (.inr (.inl rfl))] at h
          cases h
      · have p46 : List.isPrefixOf [46] (a :: (g ++ r)) = false := by simp [List.isPrefixOf, Ne.symm h46]
        by_cases h95 : a = 95
        · subst h95
          rw [p46]
          simp only [List.isPrefixOf, beq_self_eq_true, Bool.true_and, cond_false, cond_true]
          cases g with
          | nil =>
            have hb : List.isPrefixOf [95] ([] ++ r) = false := by
              cases r with
              | nil => rfl
              | cons b r =>
                rcases hr with hr | hr
                · cases hr
                · have : b ≠ 95 := by
                    rintro rfl
                    have h' : Wb 95 = true := hr
                    exact absurd h' (by decide)
                  simp [List.isPrefixOf, Ne.symm this]
            rw [hb]
            refine ⟨fun _ => rfl, fun h => ?_⟩
            rw [ok.2 (.inr (.inr (.inl rfl)))] at h
            cases h
          | cons b g =>
            have hn2 : ∀ x ∈ g, Wb x = false := fun x hx => hn' x (List.mem_cons_of_mem _ hx)
            by_cases hb : b = 95
            · subst hb
              simp only [List.cons_append, List.isPrefixOf, beq_self_eq_true, Bool.true_and, cond_true, List.drop_succ_cons, List.drop_zero]
              refine ⟨fun h => ?_, fun h _ => headW_app (fun eg => ?_) hn2⟩
              · rcases ok.1 h with h | h | h | h | h
                · cases h
                · cases h
                · cases h
                · rw [show g = [] by simpa using h]; rfl
                · exact absurd h notall
              · subst eg
                rw [ok.2 (.inr (.inr (.inr (.inl rfl))))] at h
                cases h
            · have pb : ((95 : UInt8) == b) = false := beq_eq_false_iff_ne.2 (Ne.symm hb)
              simp only [List.cons_append, List.isPrefixOf, pb, Bool.false_and, cond_false]
              refine ⟨fun h => ?_, fun h _ => hn' b List.mem_cons_self⟩
              rcases ok.1 h with h | h | h | h | h
              · cases h
              · cases h
              · cases h
              · simp at h; exact absurd h.1 hb
              · exact absurd h notall
        · have p95 : ∀ z, List.isPrefixOf (95 :: z) (a :: (g ++ r)) = false := fun z => by simp [List.isPrefixOf, Ne.symm h95]
          rw [p46, p95, p95]
          simp only [cond_false]
          refine ⟨fun h => ?_, fun _ h => by cases h⟩
          rcases ok.1 h with h | h | h | h | h
          · cases h
          · simp at h; exact absurd h.1 h46
          · simp at h; exact absurd h.1 h95
          · simp at h; exact absurd h.1 h95
          · exact absurd h notall
end Go.Proofs.YtofcjkbgieenlaaDoor.PM

/- The walks: the builder of box. -/
import Derived.Test.YtdhdminocboipaaZBoxL
namespace Go.Proofs.Ytdhdminocboipaa
open Go.RowKit

theorem get_set_ne' {H : Hp} {p q : Nat} {e x : Ent} (h : H[p]? = some x) (hn : q ≠ p) : (H.set q e)[p]? = some x := by rw [List.getElem?_set_ne hn]; exact h
def bE (b c : Nat) (id : Int) : Ent := .blk b 109 [.pointer (some ⟨c, 0, none⟩), .int .u32 id]
def cE (c : Nat) (slots bytes : Int) (ao : Option Addr) (n cap : Nat) (all : Int) : Ent := .blk c 111 [.int .i64 slots, .int .i64 bytes, .slice ao n cap, .int .i64 all]
def tE (ao : Option Addr) (cap : Nat) (ls : List (List UInt8)) : Ent := .row ao ls.length cap 9 1 (ls.map txV)
/-- May there be such a builder? -/
def newP (id slots bytes : Int) : Prop := idP id ∧ 1 ≤ slots ∧ slots ≤ 256 ∧ 1 ≤ bytes ∧ bytes ≤ 65536
instance (id slots bytes : Int) : Decidable (newP id slots bytes) := by unfold newP; infer_instance
def lenSum (ls : List (List UInt8)) : Int := (lenL ls).sum
def roomP (slots bytes : Int) (ls : List (List UInt8)) (n : Int) : Prop := ls.length < slots ∧ n ≤ bytes - lenSum ls
instance (slots bytes : Int) (ls : List (List UInt8)) (n : Int) : Decidable (roomP slots bytes ls n) := by unfold roomP; infer_instance
section
variable {W : World} {M : List Nat} {H : Hp} {w : World}
theorem New_no (id slots bytes : Int) (hn : ¬ newP id slots bytes) (hs : Sat W M H w) :
    Calls Try.prog 30 #[.int .u32 id, .int .i64 slots, .int .i64 bytes] w fun e w' => e = .returned (.tuple #[.pointer none, .int .i64 1]) ∧ Sat W M H w' := by
  unfold newP idP at hn
  refine sx_fn (S := SX) (N := 37) Try.func30 rfl rfl rfl hs ?_
  ((try refine sx_use ?_); (repeat (refine SxNew.mk fun _ => ?_; (try refine sx_use ?_))))
  refine SxIf.dec (fun h1 => ?_) (fun h1 => ?_)
  · ((try refine sx_use ?_); (repeat (refine SxNew.mk fun _ => ?_; (try refine sx_use ?_))))
    exact SxDone.mk fun w' hs => ⟨rfl, hs⟩
  ((try refine sx_use ?_); (repeat (refine SxNew.mk fun _ => ?_; (try refine sx_use ?_))))
  refine SxIf.dec (fun h2 => ?_) (fun h2 => ?_)
  · ((try refine sx_use ?_); (repeat (refine SxNew.mk fun _ => ?_; (try refine sx_use ?_))))
    exact SxDone.mk fun w' hs => ⟨rfl, hs⟩
  ((try refine sx_use ?_); (repeat (refine SxNew.mk fun _ => ?_; (try refine sx_use ?_))))
  refine SxIf.dec (fun h3 => ?_) (fun h3 => ?_)
  · ((try refine sx_use ?_); (repeat (refine SxNew.mk fun _ => ?_; (try refine sx_use ?_))))
    exact SxDone.mk fun w' hs => ⟨rfl, hs⟩
  ((try refine sx_use ?_); (repeat (refine SxNew.mk fun _ => ?_; (try refine sx_use ?_))))
  refine SxIf.dec (fun h4 => ?_) (fun h4 => ?_)
  · ((try refine sx_use ?_); (repeat (refine SxNew.mk fun _ => ?_; (try refine sx_use ?_))))
    exact SxDone.mk fun w' hs => ⟨rfl, hs⟩
  ((try refine sx_use ?_); (repeat (refine SxNew.mk fun _ => ?_; (try refine sx_use ?_))))
  refine SxIf.dec (fun h5 => ?_) (fun h5 => ?_)
  · ((try refine sx_use ?_); (repeat (refine SxNew.mk fun _ => ?_; (try refine sx_use ?_))))
    exact SxDone.mk fun w' hs => ⟨rfl, hs⟩
  ((try refine sx_use ?_); (repeat (refine SxNew.mk fun _ => ?_; (try refine sx_use ?_))))
  exact SxDone.mk fun w' hs => ⟨rfl, hs⟩
theorem New_yes (id slots bytes : Int) (hn : newP id slots bytes) (hs : Sat W M H w) :
    Calls Try.prog 30 #[.int .u32 id, .int .i64 slots, .int .i64 bytes] w fun e w' => ∃ b c, e = .returned (.tuple #[.pointer (some ⟨b, 0, none⟩), .int .i64 0]) ∧ Sat W M (bE b c id :: cE c slots bytes none 0 0 0 :: H) w' := by
  obtain ⟨⟨h1, h2⟩, h3, h4, h5, h6⟩ := hn
  refine sx_fn (S := SX) (N := 37) Try.func30 rfl rfl rfl hs ?_
  ((try refine sx_use ?_); (repeat (refine SxNew.mk fun _ => ?_; (try refine sx_use ?_))))
  exact SxDone.mk fun w' hs => ⟨_, _, rfl, hs⟩
theorem made_nil (hs : Sat W M H w) : Calls Try.prog 60 #[.pointer none] w fun e w' => e = .returned (.bool false) ∧ Sat W M H w' := by
  refine sx_fn (S := SX) (N := 12) Try.func60 rfl rfl rfl hs ?_
  ((try refine sx_use ?_); (repeat (refine SxNew.mk fun _ => ?_; (try refine sx_use ?_))))
  refine SxRun.pNeNil Try.underlying56 ?_
  ((try refine sx_use ?_); (repeat (refine SxNew.mk fun _ => ?_; (try refine sx_use ?_))))
  exact SxDone.mk fun w' hs => ⟨rfl, hs⟩
theorem made_sat (hs : Sat W M H w) (p b c : Nat) (id : Int) (hp : H[p]? = some (bE b c id)) : Calls Try.prog 60 #[.pointer (some ⟨b, 0, none⟩)] w fun e w' => e = .returned (.bool true) ∧ Sat W M H w' := by
  refine sx_fn (S := SX) (N := 12) Try.func60 rfl rfl rfl hs ?_
  ((try refine sx_use ?_); (repeat (refine SxNew.mk fun _ => ?_; (try refine sx_use ?_))))
  refine SxRun.pNeNil Try.underlying56 ?_
  ((try refine sx_use ?_); (repeat (refine SxNew.mk fun _ => ?_; (try refine sx_use ?_))))
  refine SxLd.blk p hp rfl ?_
  ((try refine sx_use ?_); (repeat (refine SxNew.mk fun _ => ?_; (try refine sx_use ?_))))
  refine SxRun.pNeNil Try.underlying107 ?_
  ((try refine sx_use ?_); (repeat (refine SxNew.mk fun _ => ?_; (try refine sx_use ?_))))
  exact SxDone.mk fun w' hs => ⟨rfl, hs⟩
theorem croom_sat (hs : Sat W M H w) (q c : Nat) (slots bytes : Int) (ao : Option Addr) (cap : Nat) (ls : List (List UInt8)) (hq : H[q]? = some (cE c slots bytes ao ls.length cap (lenSum ls))) (n : Int) (h1 : 0 ≤ lenSum ls ∧ lenSum ls ≤ 1000000000) (h2 : 0 ≤ bytes ∧ bytes ≤ 1000000000) :
    Calls Try.prog 61 #[.pointer (some ⟨c, 0, none⟩), .int .i64 n] w fun e w' => e = .returned (.bool (decide (roomP slots bytes ls n))) ∧ Sat W M H w' := by
  refine sx_fn (S := SX) (N := 28) Try.func61 rfl rfl rfl hs ?_
  ((try refine sx_use ?_); (repeat (refine SxNew.mk fun _ => ?_; (try refine sx_use ?_))))
  refine SxCode.drawAll rfl [] ?_
  ((try refine sx_use ?_); (repeat (refine SxNew.mk fun _ => ?_; (try refine sx_use ?_))))
  refine SxLd.blk q hq rfl ?_
  ((try refine sx_use ?_); (repeat (refine SxNew.mk fun _ => ?_; (try refine sx_use ?_))))
  refine SxLd.blk q hq rfl ?_
  ((try refine sx_use ?_); (repeat (refine SxNew.mk fun _ => ?_; (try refine sx_use ?_))))
  refine SxIf.dec (fun h => ?_) (fun h => ?_)
  · ((try refine sx_use ?_); (repeat (refine SxNew.mk fun _ => ?_; (try refine sx_use ?_))))
    refine SxLd.blk q hq rfl ?_
    ((try refine sx_use ?_); (repeat (refine SxNew.mk fun _ => ?_; (try refine sx_use ?_))))
    refine SxLd.blk q hq rfl ?_
    ((try refine sx_use ?_); (repeat (refine SxNew.mk fun _ => ?_; (try refine sx_use ?_))))
    refine SxDone.mk fun w' hs => ⟨?_, hs⟩
    show Ending.returned (.bool (decide (n ≤ bytes - lenSum ls))) = _
    by_cases hr : n ≤ bytes - lenSum ls
    · rw [decide_eq_true hr, decide_eq_true (show roomP slots bytes ls n from ⟨h, hr⟩)]
    · rw [decide_eq_false hr, decide_eq_false (fun hh : roomP slots bytes ls n => hr hh.2)]
  · ((try refine sx_use ?_); (repeat (refine SxNew.mk fun _ => ?_; (try refine sx_use ?_))))
    exact SxDone.mk fun w' hs => ⟨by rw [decide_eq_false (fun hh : roomP slots bytes ls n => h hh.1)]; rfl, hs⟩
theorem cLen_sat (hs : Sat W M H w) (q c : Nat) (slots bytes all : Int) (ao : Option Addr) (n cap : Nat) (hq : H[q]? = some (cE c slots bytes ao n cap all)) :
    Calls Try.prog 62 #[.pointer (some ⟨c, 0, none⟩)] w fun e w' => e = .returned (.int .i64 n) ∧ Sat W M H w' := by
  refine sx_fn (S := SX) (N := 10) Try.func62 rfl rfl rfl hs ?_
  ((try refine sx_use ?_); (repeat (refine SxNew.mk fun _ => ?_; (try refine sx_use ?_))))
  refine SxRun.pEqNil Try.underlying107 ?_
  ((try refine sx_use ?_); (repeat (refine SxNew.mk fun _ => ?_; (try refine sx_use ?_))))
  refine SxLd.blk q hq rfl ?_
  ((try refine sx_use ?_); (repeat (refine SxNew.mk fun _ => ?_; (try refine sx_use ?_))))
  exact SxDone.mk fun w' hs => ⟨rfl, hs⟩
theorem BLen_nil (hs : Sat W M H w) : Calls Try.prog 29 #[.pointer none] w fun e w' => e = .returned (.int .i64 0) ∧ Sat W M H w' := by
  refine sx_fn (S := SX) (N := 11) Try.func29 rfl rfl rfl hs ?_
  ((try refine sx_use ?_); (repeat (refine SxNew.mk fun _ => ?_; (try refine sx_use ?_))))
  refine SxCall.sat H (fun w hs => made_nil hs) ?_
  ((try refine sx_use ?_); (repeat (refine SxNew.mk fun _ => ?_; (try refine sx_use ?_))))
  exact SxDone.mk fun w' hs => ⟨rfl, hs⟩
theorem BChunk_nil (hs : Sat W M H w) (i : Int) : Calls Try.prog 27 #[.pointer none, .int .i64 i] w fun e w' => e = .returned (.tuple #[txV [], .int .i64 4]) ∧ Sat W M H w' := by
  refine sx_fn (S := SX) (N := 35) Try.func27 rfl rfl rfl hs ?_
  ((try refine sx_use ?_); (repeat (refine SxNew.mk fun _ => ?_; (try refine sx_use ?_))))
  refine SxCall.sat H (fun w hs => made_nil hs) ?_
  ((try refine sx_use ?_); (repeat (refine SxNew.mk fun _ => ?_; (try refine sx_use ?_))))
  exact SxDone.mk fun w' hs => ⟨rfl, hs⟩
theorem Add_nil (hs : Sat W M H w) (s : ByteArray) : Calls Try.prog 26 #[.pointer none, .string s] w fun e w' => e = .returned (.tuple #[.int .i64 0, .int .i64 4]) ∧ Sat W M H w' := by
  refine sx_fn (S := SX) (N := 65) Try.func26 rfl rfl rfl hs ?_
  ((try refine sx_use ?_); (repeat (refine SxNew.mk fun _ => ?_; (try refine sx_use ?_))))
  refine SxCall.sat H (fun w hs => made_nil hs) ?_
  ((try refine sx_use ?_); (repeat (refine SxNew.mk fun _ => ?_; (try refine sx_use ?_))))
  exact SxDone.mk fun w' hs => ⟨rfl, hs⟩
theorem Seal_nil (hs : Sat W M H w) : Calls Try.prog 28 #[.pointer none] w fun e w' => e = .returned (.tuple #[txV [], .int .i64 4]) ∧ Sat W M H w' := by
  refine sx_fn (S := SX) (N := 32) Try.func28 rfl rfl rfl hs ?_
  ((try refine sx_use ?_); (repeat (refine SxNew.mk fun _ => ?_; (try refine sx_use ?_))))
  refine SxCall.sat H (fun w hs => made_nil hs) ?_
  ((try refine sx_use ?_); (repeat (refine SxNew.mk fun _ => ?_; (try refine sx_use ?_))))
  exact SxDone.mk fun w' hs => ⟨rfl, hs⟩
theorem BLen_sat (hs : Sat W M H w) (p q b c : Nat) (id slots bytes all : Int) (ao : Option Addr) (n cap : Nat) (hp : H[p]? = some (bE b c id)) (hq : H[q]? = some (cE c slots bytes ao n cap all)) :
    Calls Try.prog 29 #[.pointer (some ⟨b, 0, none⟩)] w fun e w' => e = .returned (.int .i64 n) ∧ Sat W M H w' := by
  refine sx_fn (S := SX) (N := 11) Try.func29 rfl rfl rfl hs ?_
  ((try refine sx_use ?_); (repeat (refine SxNew.mk fun _ => ?_; (try refine sx_use ?_))))
  refine SxCall.sat H (fun w hs => made_sat hs p b c id hp) ?_
  ((try refine sx_use ?_); (repeat (refine SxNew.mk fun _ => ?_; (try refine sx_use ?_))))
  refine SxLd.blk p hp rfl ?_
  ((try refine sx_use ?_); (repeat (refine SxNew.mk fun _ => ?_; (try refine sx_use ?_))))
  refine SxCall.sat H (fun w hs => cLen_sat hs q c slots bytes all ao n cap hq) ?_
  ((try refine sx_use ?_); (repeat (refine SxNew.mk fun _ => ?_; (try refine sx_use ?_))))
  exact SxDone.mk fun w' hs => ⟨rfl, hs⟩
/-- What the builder's 'Chunk' answers. -/
def bchunkV (ls : List (List UInt8)) (i : Int) : List UInt8 × Int := if 0 ≤ i ∧ i < ls.length then (ls.getD i.toNat [], 0) else ([], 5)
theorem BChunk_sat (hs : Sat W M H w) (p q r b c : Nat) (id slots bytes all : Int) (ao : Option Addr) (cap : Nat) (ls : List (List UInt8)) (hp : H[p]? = some (bE b c id)) (hq : H[q]? = some (cE c slots bytes ao ls.length cap all)) (hr : H[r]? = some (tE ao cap ls)) (i : Int) :
    Calls Try.prog 27 #[.pointer (some ⟨b, 0, none⟩), .int .i64 i] w fun e w' => e = .returned (.tuple #[txV (bchunkV ls i).1, .int .i64 (bchunkV ls i).2]) ∧ Sat W M H w' := by
  refine sx_fn (S := SX) (N := 35) Try.func27 rfl rfl rfl hs ?_
  ((try refine sx_use ?_); (repeat (refine SxNew.mk fun _ => ?_; (try refine sx_use ?_))))
  refine SxCall.sat H (fun w hs => made_sat hs p b c id hp) ?_
  ((try refine sx_use ?_); (repeat (refine SxNew.mk fun _ => ?_; (try refine sx_use ?_))))
  refine SxIf.dec (fun h => ?_) (fun h => ?_)
  · ((try refine sx_use ?_); (repeat (refine SxNew.mk fun _ => ?_; (try refine sx_use ?_))))
    exact SxDone.mk fun w' hs => ⟨by unfold bchunkV; rw [if_neg (by omega)]; rfl, hs⟩
  ((try refine sx_use ?_); (repeat (refine SxNew.mk fun _ => ?_; (try refine sx_use ?_))))
  refine SxLd.blk p hp rfl ?_
  ((try refine sx_use ?_); (repeat (refine SxNew.mk fun _ => ?_; (try refine sx_use ?_))))
  refine SxLd.blk q hq rfl ?_
  ((try refine sx_use ?_); (repeat (refine SxNew.mk fun _ => ?_; (try refine sx_use ?_))))
  refine SxIf.dec (fun h2 => ?_) (fun h2 => ?_)
  · ((try refine sx_use ?_); (repeat (refine SxNew.mk fun _ => ?_; (try refine sx_use ?_))))
    exact SxDone.mk fun w' hs => ⟨by unfold bchunkV; rw [if_neg (by omega)]; rfl, hs⟩
  obtain ⟨k, rfl⟩ : ∃ k : Nat, i = k := ⟨i.toNat, by omega⟩
  have hk : k < ls.length := by omega
  obtain ⟨x, hx⟩ : ∃ x, ls[k]? = some x := ⟨ls[k], by simp [hk]⟩
  ((try refine sx_use ?_); (repeat (refine SxNew.mk fun _ => ?_; (try refine sx_use ?_))))
  refine SxLd.blk p hp rfl ?_
  ((try refine sx_use ?_); (repeat (refine SxNew.mk fun _ => ?_; (try refine sx_use ?_))))
  refine SxLd.blk q hq rfl ?_
  ((try refine sx_use ?_); (repeat (refine SxNew.mk fun _ => ?_; (try refine sx_use ?_))))
  refine SxIA.row r _ _ _ hr k rfl hk fun g ha => ?_
  ((try refine sx_use ?_); (repeat (refine SxNew.mk fun _ => ?_; (try refine sx_use ?_))))
  refine SxLd.row r hr ha (j := k) (by omega) (txV_get hx) ?_
  ((try refine sx_use ?_); (repeat (refine SxNew.mk fun _ => ?_; (try refine sx_use ?_))))
  exact SxDone.mk fun w' hs => ⟨by unfold bchunkV; rw [if_pos ⟨by omega, by omega⟩, Int.toNat_natCast, List.getD, hx]; rfl, hs⟩
end
end Go.Proofs.Ytdhdminocboipaa

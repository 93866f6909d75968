/- Layer 19: fingerprints as keys, of sums; Fps. -/
import Derived.Test.YtipmmknecadkkaaZEnA
import Derived.Test.YtipmmknecadkkaaZSxP
import Derived.Test.YtipmmknecadkkaaZShaQ
import Derived.Test.YtipmmknecadkkaaZOpnR
namespace Go.Proofs.Ytipmmknecadkkaa
open Go.RowKit

abbrev Fq := {f : List UInt8 // f.length = 32}
instance instFq : Inhabited Fq := ⟨⟨List.replicate 32 0, rfl⟩⟩
def fqC (f : Fq) : List Value := f.1.map u8V
def fqV (f : Fq) : Value := .agg (fqC f).toArray
theorem fqC_len (f : Fq) : (fqC f).length = 32 := by unfold fqC; rw [List.length_map, f.2]
theorem fqC_one (f : Fq) : allOne (fqC f) = true := by
  have := allOne_u8 f.1 []
  rw [List.append_nil] at this
  exact this
def fqE : Enc Fq := ⟨fqC, 32, by decide, fqC_len, fqC_one⟩
theorem fqC_inj {f g : Fq} (h : fqC f = fqC g) : f = g := Subtype.ext (u8V_inj h)
theorem fqV_inj {f g : Fq} (h : fqV f = fqV g) : f = g := by
  unfold fqV at h
  simp only [Value.agg.injEq] at h
  exact fqC_inj (by simpa using congrArg Array.toList h)
def fqK : List KD := List.replicate 32 (.int .u8)
theorem fqK_all (f : Fq) : allK fqK (fqC f) = true := by
  have := allK_u8 [] [] f.1
  rw [f.2, List.append_nil, List.append_nil] at this
  exact this
def fqKey : KeyT SX 38 := ⟨3, fqK, _, rfl, rfl, rfl⟩
theorem fqKey_ok (f : Fq) : fqKey.ok (fqV f) := ⟨fqK_all f, rfl⟩
theorem fq_eq (x y : Fq) : cellsEq (fqC x) (fqC y) = decide (x = y) := by
  have h := cellsEq_iff (ks := fqK) (us := fqC x) (vs := fqC y) (fqK_all x) (fqK_all y)
  by_cases he : x = y
  · rw [decide_eq_true he, he]
    exact (cellsEq_iff (ks := fqK) (us := fqC y) (vs := fqC y) (fqK_all y) (fqK_all y)).2 rfl
  · rw [decide_eq_false he]
    cases hc : cellsEq (fqC x) (fqC y) with
    | false => rfl
    | true => exact absurd (fqC_inj (h.1 hc)) he
theorem SxRun.eqFq {x y : Fq} {o1 o2 : Operand} {A : Value → Prop} (h : A (.bool (decide (x = y)))) : SxRun SX.P (do eqGuard .eql 38 o1 o2 (.agg (fqC x).toArray) (.agg (fqC y).toArray); binOp .eql 38 (.agg (fqC x).toArray) (.agg (fqC y).toArray)) A :=
  SxRun.eq 3 rfl (ks := fqK) rfl rfl (by kernel_rfl) rfl (fqK_all x) (fqK_all y) (by show A (.bool (cellsEq (fqC x) (fqC y))); rw [fq_eq]; exact h)
theorem SxRun.neFq {x y : Fq} {o1 o2 : Operand} {A : Value → Prop} (h : A (.bool (!decide (x = y)))) : SxRun SX.P (do eqGuard .neq 38 o1 o2 (.agg (fqC x).toArray) (.agg (fqC y).toArray); binOp .neq 38 (.agg (fqC x).toArray) (.agg (fqC y).toArray)) A :=
  SxRun.ne 3 rfl (ks := fqK) rfl rfl (by kernel_rfl) rfl (fqK_all x) (fqK_all y) (by show A (.bool (!cellsEq (fqC x) (fqC y))); rw [fq_eq]; exact h)
/-- The fingerprint of a text. -/
def shaFq (l : List UInt8) : Fq := ⟨tab 32 (fun j => UInt8.ofNat (shaS l (j / 4) / 256 ^ (3 - j % 4) % 256)), tab_length _ _⟩
theorem shaV_eq (l : List UInt8) : shaV l = fqV (shaFq l) := by
  unfold shaV fqV fqC shaFq
  congr 2
  unfold tab
  rw [List.map_map]
  refine List.map_congr_left fun j _ => ?_
  show sumV (shaS l) j = u8V _
  unfold sumV u8V
  congr 2
  rw [UInt8.toNat_ofNat']
  omega
def bFq (b : ByteArray) : Fq := shaFq b.data.toList
section
variable {W : World} {M : List Nat} {H : Hp} {A : Value → Hp → Prop}
theorem SxCall.rsumF (s : ByteArray) (hl : s.size ≤ 900000) (h : A (fqV (bFq s)) H) : SxCall SX W M 10 #[.string s] H A := SxCall.quiet (fun w => by
  have h5 := RSum_any s hl (fun W => RPad_any s.size (by omega) W) w
  rw [shaV_eq] at h5
  exact h5) h
theorem SxCall.sumF (p : Nat) {ao : Option Addr} {cap e k : Nat} (s : ByteArray) (hl : s.size ≤ 900000) (hp : H[p]? = some (.row ao 1 cap e k [.string s])) (h : A (fqV (bFq s)) H) : SxCall SX W M 29 #[.slice ao 1 cap] H A := SxCall.quietS (fun w hs => by
  have hj : joinL [s] = s.data.toList := by simp [joinL]
  have h5 := Sum_any [s] (by rw [hj]; exact hl) (by simp) ao cap w (hs.rowRd p hp (by show 1 ≤ maxLen; decide))
  rw [hj, shaV_eq] at h5
  exact h5) h
end
attribute [irreducible] bFq
end Go.Proofs.Ytipmmknecadkkaa

/- Entries: a fingerprint, a length, a place. -/
import Derived.Test.YtdififdnnpgjoaaZPlA
namespace Go.Proofs.Ytdififdnnpgjoaa
open Go.RowKit

def u8V (b : UInt8) : Value := .int .u8 (b.toNat : Int)
structure En where
  fp : List UInt8
  ln : Int
  bx : Int
  sl : Int
  hf : fp.length = 32
  deriving DecidableEq
instance : Inhabited En := ⟨⟨List.replicate 32 0, 0, 0, 0, rfl⟩⟩
def enT (ln bx sl : Int) : List Value := [.int .i64 ln, .int .u32 bx, .int .i64 sl]
def enC (e : En) : List Value := e.fp.map u8V ++ enT e.ln e.bx e.sl
def En.pl (e : En) : Pl := ⟨e.bx, e.sl⟩
theorem enC_len (e : En) : (enC e).length = 35 := by unfold enC; rw [List.length_append, List.length_map, e.hf]; rfl
theorem allOne_u8 : ∀ (f : List UInt8) (r : List Value), allOne (f.map u8V ++ r) = allOne r
  | [], _ => rfl
  | _ :: f, r => allOne_u8 f r
theorem enC_one (e : En) : allOne (enC e) = true := by unfold enC; rw [allOne_u8]; rfl
def enE : Enc En := ⟨enC, 35, by decide, enC_len, enC_one⟩
theorem enC_tail (e : En) (j : Nat) (v : Value) (h : (enT e.ln e.bx e.sl)[j]? = some v) : (enE.enc e)[32 + j]? = some v := by
  show (e.fp.map u8V ++ enT e.ln e.bx e.sl)[32 + j]? = some v
  rw [List.getElem?_append_right (by rw [List.length_map, e.hf]; omega), List.length_map, e.hf, Nat.add_sub_cancel_left]
  exact h
theorem u8V_inj : ∀ {f g : List UInt8}, f.map u8V = g.map u8V → f = g
  | [], [], _ => rfl
  | [], _ :: _, h => by simp at h
  | _ :: _, [], h => by simp at h
  | a :: f, b :: g, h => by
    simp only [List.map_cons, List.cons.injEq] at h
    have h1 := h.1
    unfold u8V at h1
    simp only [Value.int.injEq, true_and] at h1
    rw [u8V_inj h.2, UInt8.toNat_inj.1 (by omega : a.toNat = b.toNat)]
theorem enC_inj {x y : En} (h : enC x = enC y) : x = y := by
  unfold enC at h
  obtain ⟨h1, h2⟩ := List.append_inj h (by rw [List.length_map, List.length_map, x.hf, y.hf])
  unfold enT at h2
  simp only [List.cons.injEq, Value.int.injEq, true_and, and_true] at h2
  obtain ⟨f, a, b, c, hf⟩ := x
  obtain ⟨f', a', b', c', hf'⟩ := y
  simp only [En.mk.injEq]
  exact ⟨u8V_inj h1, h2⟩
def enK : List KD := List.replicate 32 (.int .u8) ++ [.int .i64, .int .u32, .int .i64]
theorem allK_u8 (ks : List KD) (vs : List Value) : ∀ f : List UInt8, allK (List.replicate f.length (.int .u8) ++ ks) (f.map u8V ++ vs) = allK ks vs
  | [] => rfl
  | _ :: f => allK_u8 ks vs f
theorem enK_all (e : En) : allK enK (enC e) = true := by
  have := allK_u8 [.int .i64, .int .u32, .int .i64] (enT e.ln e.bx e.sl) e.fp
  rw [e.hf] at this
  exact this
theorem en_eq (x y : En) : cellsEq (enC x) (enC y) = decide (x = y) := by
  have h := cellsEq_iff (ks := enK) (us := enC x) (vs := enC y) (enK_all x) (enK_all y)
  by_cases he : x = y
  · rw [decide_eq_true he, he]
    exact (cellsEq_iff (ks := enK) (us := enC y) (vs := enC y) (enK_all y) (enK_all y)).2 rfl
  · rw [decide_eq_false he]
    cases hc : cellsEq (enC x) (enC y) with
    | false => rfl
    | true => exact absurd (enC_inj (h.1 hc)) he
theorem SxRun.eqEn {x y : En} {o1 o2 : Operand} {A : Value → Prop} (h : A (.bool (decide (x = y)))) : SxRun SX.P (do eqGuard .eql 80 o1 o2 (.agg (enC x).toArray) (.agg (enC y).toArray); binOp .eql 80 (.agg (enC x).toArray) (.agg (enC y).toArray)) A :=
  SxRun.eq 4 rfl (ks := enK) rfl rfl (by kernel_rfl) rfl (enK_all x) (enK_all y) (by show A (.bool (cellsEq (enC x) (enC y))); rw [en_eq]; exact h)
theorem SxRun.neEn {x y : En} {o1 o2 : Operand} {A : Value → Prop} (h : A (.bool (!decide (x = y)))) : SxRun SX.P (do eqGuard .neq 80 o1 o2 (.agg (enC x).toArray) (.agg (enC y).toArray); binOp .neq 80 (.agg (enC x).toArray) (.agg (enC y).toArray)) A :=
  SxRun.ne 4 rfl (ks := enK) rfl rfl (by kernel_rfl) rfl (enK_all x) (enK_all y) (by show A (.bool (!cellsEq (enC x) (enC y))); rw [en_eq]; exact h)
theorem open_u8L {w : World} {d : Nat} {ks : List CK} {cs : List Value} (n : Nat) (h : FitR Try.prog w d (List.replicate n (.int .u8) ++ ks) cs) : ∃ f : List UInt8, f.length = n ∧ ∃ r, cs = f.map u8V ++ r ∧ FitR Try.prog w d ks r := by
  induction n generalizing cs with
  | zero => exact ⟨[], rfl, cs, rfl, h⟩
  | succ n ih =>
    obtain ⟨hl, hf⟩ := h
    rw [List.replicate_succ, List.cons_append] at hl hf
    cases cs with
    | nil => simp at hl
    | cons c cs =>
      obtain ⟨f, h1, r, h2, h3⟩ := ih (cs := cs) ⟨by simpa using hl, fun i k v hk hv => hf (i + 1) k v (by simpa using hk) (by simpa using hv)⟩
      obtain ⟨s, hs, hw⟩ := fitK_int (hf 0 _ c rfl rfl)
      have hb : 0 ≤ s ∧ s ≤ 255 := by simpa [Lit.wf, IntKind.min, IntKind.max, IntKind.signed, IntKind.bits] using hw
      refine ⟨UInt8.ofNat s.toNat :: f, by simp [h1], r, ?_, h3⟩
      rw [h2, hs, List.map_cons, List.cons_append]
      congr 1
      unfold u8V
      congr 1
      rw [UInt8.toNat_ofNat', Nat.mod_eq_of_lt (by omega)]
      omega
theorem open_en {w : World} {d : Nat} (cs : List Value) (h : FitR Try.prog w d (List.replicate 32 (.int .u8) ++ [.int .i64, .int .u32, .int .i64]) cs) : ∃ e : En, cs = enE.enc e := by
  obtain ⟨f, hf, r, rfl, hl, hr⟩ := open_u8L 32 h
  match r, hl with
  | [x, y, z], _ =>
    obtain ⟨a, rfl, _⟩ := fitK_int (hr 0 _ _ rfl rfl)
    obtain ⟨b, rfl, _⟩ := fitK_int (hr 1 _ _ rfl rfl)
    obtain ⟨c, rfl, _⟩ := fitK_int (hr 2 _ _ rfl rfl)
    exact ⟨⟨f, a, b, c, hf⟩, rfl⟩
theorem open_ens {w : World} {d : Nat} {v : Value} (hv : FitK Try.prog w (d + 1) (.slice 80) v) : ∃ (ao : Option Addr) (n cap : Nat), v = .slice ao n cap ∧ n ≤ maxLen ∧ ∃ l : List En, l.length = min n 1000 ∧ Rd w ao (enE.fl l) :=
  open_rows enE (by decide) (List.replicate 32 (.int .u8) ++ [.int .i64, .int .u32, .int .i64]) hv (by kernel_rfl) (by kernel_rfl) rfl fun cs h => open_en cs h
end Go.Proofs.Ytdififdnnpgjoaa

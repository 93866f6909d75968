/- The base texts of this claim, one behind the other. -/
import Derived.Test.YtdififdnnpgjoaaZSxa
import Derived.OrdersHeld
import Derived.Laws.StructEq
import Derived.ChangeKeysEq
import Derived.Laws.Pointers
import Derived.Laws.Cover3
import Derived.Lib.Builder
import Derived.Test.YtdififdnnpgjoaaZBase
import Derived.MapKept
import Derived.WideKeyRuns
/- A symbolic walk: a stretch of code; loops; a function. No program is named here. -/
namespace Go.Proofs.Ytdififdnnpgjoaa
open Go.RowKit

def lookD : List (Nat × Bool) → Nat → Option Bool
  | [], _ => none
  | (i, b) :: r, j => bif Nat.beq i j then some b else lookD r j
def nthO : List Oper → Nat → Option Oper
  | [], _ => none
  | v :: _, 0 => some v
  | _ :: r, n + 1 => nthO r n
theorem nthO_eq : ∀ (l : List Oper) (n : Nat), nthO l n = l[n]?
  | [], n => by simp [nthO]
  | v :: r, 0 => by simp [nthO]
  | v :: r, n + 1 => by simp [nthO, nthO_eq r n]
def gdst (all : List Oper) (j : Nat) : Option Nat := match nthO all j with | some o => o.dst | none => none
def sameB : Bool → Bool → Bool
  | true, true | false, false => true
  | _, _ => false
theorem sameB_eq {a b : Bool} (h : sameB a b = true) : a = b := by cases a <;> cases b <;> first | rfl | cases h
def sxOps (S : Sx) (W : World) (M : List Nat) (N : Nat) (all : List Oper) : List Oper → List (Nat × Bool) → Fr → Hp → (Fr → Hp → Prop) → Prop
  | [], _, F, H, K => K F H
  | o :: r, D, F, H, K => bif dstOk N o.dst then
      (match o.guard with
      | none => sxOp S W M N o F H fun v H' => sxOps S W M N all r D (upd o.dst v F) H' K
      | some (j, want) => match gdst all j with
        | some d => match look F d with
          | some (.bool t) => match lookD D j with
            | some b => bif sameB t b then (bif sameB b want then sxOp S W M N o F H fun v H' => sxOps S W M N all r D (upd o.dst v F) H' K else sxOps S W M N all r D (upd o.dst undef F) H K) else False
            | none => SxIf t
                (bif want then sxOp S W M N o ((d, some (.bool true)) :: F) H fun v H' => sxOps S W M N all r ((j, true) :: D) (upd o.dst v ((d, some (.bool true)) :: F)) H' K else sxOps S W M N all r ((j, true) :: D) (upd o.dst undef ((d, some (.bool true)) :: F)) H K)
                (bif want then sxOps S W M N all r ((j, false) :: D) (upd o.dst undef ((d, some (.bool false)) :: F)) H K else sxOp S W M N o ((d, some (.bool false)) :: F) H fun v H' => sxOps S W M N all r ((j, false) :: D) (upd o.dst v ((d, some (.bool false)) :: F)) H' K)
          | some (.tuple _) => sxOps S W M N all r D (upd o.dst undef F) H K
          | _ => False
        | none => False)
    else False
def writes : Code → List Nat
  | .region _ ops _ => ops.toList.filterMap (·.dst)
  | .seq x y => writes x ++ writes y
  | .cond _ x y => writes x ++ writes y
  | .block _ c => writes c
  | .loop c => writes c
  | .scope c => writes c
  | .rangeFunc _ _ x y => writes x ++ writes y
  | _ => []
def Same (wr : List Nat) (a a' : Act) : Prop := ∀ t, t ∉ wr → a'.tmps.getD t undef = a.tmps.getD t undef
theorem Same.refl (wr : List Nat) (a : Act) : Same wr a a := fun _ _ => rfl
theorem Same.trans {u v : List Nat} {a b c : Act} (h : Same u a b) (k : Same v b c) {wr : List Nat} (hu : ∀ t ∈ u, t ∈ wr) (hv : ∀ t ∈ v, t ∈ wr) : Same wr a c :=
  fun t ht => (k t fun h => ht (hv t h)).trans (h t fun h => ht (hu t h))
theorem Same.put {wr : List Nat} {a b : Act} (h : Same wr a b) {d : Option Nat} (hd : ∀ t, d = some t → t ∈ wr) (v : Value) : Same wr a (b.put d v) := by
  intro t ht
  rw [← h t ht]
  cases d with
  | none => rfl
  | some d =>
    have hne : t ≠ d := fun e => ht (e ▸ hd d rfl)
    unfold Act.put
    by_cases hs : t < b.tmps.size
    · simp [hs, Array.getElem_setIfInBounds, Ne.symm hne]
    · simp [hs]
/-- What the walk says of an exit. -/
def Lift (W : World) (M : List Nat) (N : Nat) (Q : Exit → Fr → Hp → Prop) (wr : List Nat) (a : Act) : Exit → Act → World → Prop :=
  fun e a' w' => ∃ F H, Q e F H ∧ Agree N F a' ∧ Sat W M H w' ∧ Same wr a a'
inductive SxCode (S : Sx) (W : World) (M : List Nat) (N : Nat) (c : Code) (Q : Exit → Fr → Hp → Prop) (F : Fr) (H : Hp) : Prop
  | mk (h : ∀ a w, Agree N F a → Sat W M H w → c.wp S.P (Lift W M N Q (writes c) a) a w)
def condF (c : Operand) (b : Bool) (F : Fr) : Fr := match c with
  | .tmp t => (t, some (.bool b)) :: F
  | _ => F
/-- What a stretch of code asks. -/
def sx (S : Sx) (W : World) (M : List Nat) (N : Nat) : Code → (Exit → Fr → Hp → Prop) → Fr → Hp → Prop
  | .skip, Q, F, H => Q .normal F H
  | .label _, Q, F, H => Q .normal F H
  | .region i ops d, Q, F, H => match d with
    | false => sxOps S W M N ops.toList ops.toList [] F H (Q .normal)
    | true => SxCode S W M N (.region i ops true) Q F H
  | .seq x y, Q, F, H => sx S W M N x (fun e F' H' => match e with
    | .normal => sx S W M N y Q F' H'
    | e => Q e F' H') F H ∨ SxCode S W M N (.seq x y) Q F H
  | .cond c x y, Q, F, H => match ev F c with
    | some (.bool t) => SxIf t (sx S W M N x Q (condF c true F) H) (sx S W M N y Q (condF c false F) H)
    | _ => False
  | .block id c, Q, F, H => sx S W M N c (fun e F' H' => match e with
    | .exit i => bif Nat.beq i id then Q .normal F' H' else Q (.exit i) F' H'
    | e => Q e F' H') F H
  | .exit id, Q, F, H => Q (.exit id) F H
  | .goto l, Q, F, H => Q (.goto l) F H
  | .ret, Q, F, H => Q .ret F H
  | .loop c, Q, F, H => SxCode S W M N (.loop c) Q F H
  | .scope c, Q, F, H => SxCode S W M N (.scope c) Q F H
  | .rangeFunc f ps x y, Q, F, H => SxCode S W M N (.rangeFunc f ps x y) Q F H
  | .refuse s, Q, F, H => SxCode S W M N (.refuse s) Q F H
section
variable {S : Sx} {W : World} {M : List Nat} {N : Nat}
theorem yielded_of {all : List Oper} {j d : Nat} {F : Fr} {a : Act} {t : Bool} (ha : Agree N F a) (hg : gdst all j = some d) (hl : look F d = some (.bool t)) : yielded all.toArray a.tmps j = some t := by
  have hv := ha.slots d _ hl
  have hd : a.tmps[d]? = some (.bool t) := by
    by_cases h : d < a.tmps.size
    · simp [h] at hv ⊢; exact hv
    · simp [h, undef] at hv
  unfold gdst at hg
  rw [nthO_eq] at hg
  split at hg
  · rename_i o ho
    simp [yielded, ho, hg, hd]
  · cases hg
theorem yielded_no {all : List Oper} {j d : Nat} {F : Fr} {a : Act} {vs : Array Value} (ha : Agree N F a) (hg : gdst all j = some d) (hl : look F d = some (.tuple vs)) : yielded all.toArray a.tmps j = none := by
  have hv := ha.slots d _ hl
  unfold gdst at hg
  rw [nthO_eq] at hg
  split at hg
  · rename_i o ho
    by_cases h : d < a.tmps.size
    · have hd : a.tmps[d]? = some (.tuple vs) := by simp [h] at hv ⊢; exact hv
      simp [yielded, ho, hg, hd]
    · have hd : a.tmps[d]? = none := by simp; omega
      simp [yielded, ho, hg, hd]
  · cases hg
theorem Agree.bool {F : Fr} {a : Act} {d : Nat} {t : Bool} (ha : Agree N F a) (hl : look F d = some (.bool t)) : Agree N ((d, some (.bool t)) :: F) a := by
  refine ⟨ha.size, ha.defers, fun s v hs => ?_⟩
  simp only [look] at hs
  cases hb : Nat.beq d s with
  | true =>
    rw [hb] at hs
    have : d = s := Nat.eq_of_beq_eq_true hb
    subst this
    exact ha.slots d v (by rw [hl]; exact hs)
  | false => rw [hb] at hs; exact ha.slots s v hs
theorem sxOps_sound {all : List Oper} {K : Fr → Hp → Prop} {Q : Exit → Act → World → Prop} {a0 : Act} {wr : List Nat}
    (hQ : ∀ F H a w, K F H → Agree N F a → Sat W M H w → Same wr a0 a → Q .normal a w) :
    ∀ (r : List Oper) (D : List (Nat × Bool)) (F : Fr) (H : Hp) (a : Act) (w : World), (∀ o ∈ r, ∀ t, o.dst = some t → t ∈ wr) → sxOps S W M N all r D F H K → Agree N F a → Sat W M H w → Same wr a0 a → wpList S.P all.toArray Q r a w
  | [], D, F, H, a, w, _, h, ha, hs, hsm => hQ F H a w h ha hs hsm
  | o :: r, D, F, H, a, w, hw, h, ha, hs, hsm => by
    have hw' : ∀ o ∈ r, ∀ t, o.dst = some t → t ∈ wr := fun x hx => hw x (by simp [hx])
    have hwo := hw o (by simp)
    simp only [sxOps] at h
    cases hd : dstOk N o.dst with
    | false => rw [hd] at h; exact h.elim
    | true =>
      rw [hd] at h
      simp only [cond_true] at h
      have runs : ∀ (D' : List (Nat × Bool)) (F' : Fr), Region.wanted o (yielded all.toArray a.tmps) = true → Agree N F' a → sxOp S W M N o F' H (fun v H' => sxOps S W M N all r D' (upd o.dst v F') H' K) → wpList S.P all.toArray Q (o :: r) a w := by
        intro D' F' hwant ha' hop
        simp only [wpList, hwant, if_true]
        refine .inl (Oper.wp_mono (fun a' w' hk => ?_) (sxOp_sound hop ha' hs Q))
        obtain ⟨v, H', rfl, hs', hk⟩ := hk
        exact sxOps_sound hQ r D' _ H' _ w' hw' hk (ha'.put hd v) hs' (hsm.put hwo v)
      have skips : ∀ (D' : List (Nat × Bool)) (F' : Fr), Region.wanted o (yielded all.toArray a.tmps) = false → Agree N F' a → sxOps S W M N all r D' (upd o.dst undef F') H K → wpList S.P all.toArray Q (o :: r) a w := by
        intro D' F' hwant ha' hk
        simp only [wpList, hwant]
        exact sxOps_sound hQ r D' _ H _ w hw' hk (ha'.put hd undef) hs (hsm.put hwo undef)
      split at h
      · rename_i hg
        exact runs D F (by simp [Region.wanted, hg]) ha h
      · rename_i j want hg
        split at h
        · rename_i d hgd
          split at h
          · rename_i t hl
            have hy := yielded_of ha hgd hl
            have hwt : Region.wanted o (yielded all.toArray a.tmps) = (some t == some want) := by simp [Region.wanted, hg, hy]
            split at h
            · rename_i b hD
              cases hsb : sameB t b with
              | false => rw [hsb] at h; exact h.elim
              | true =>
                rw [hsb] at h
                obtain rfl := sameB_eq hsb
                simp only [cond_true] at h
                cases hbw : sameB t want with
                | true =>
                  rw [hbw] at h
                  obtain rfl := sameB_eq hbw
                  exact runs D F (by rw [hwt]; simp) ha h
                | false =>
                  rw [hbw] at h
                  refine skips D F (by rw [hwt]; cases t <;> cases want <;> first | rfl | cases hbw) ha h
            · cases h with
              | mk h1 h2 =>
                cases t with
                | true =>
                  have h := h1 rfl
                  cases want with
                  | true => exact runs _ _ (by rw [hwt]; rfl) (ha.bool hl) h
                  | false => exact skips _ _ (by rw [hwt]; rfl) (ha.bool hl) h
                | false =>
                  have h := h2 rfl
                  cases want with
                  | true => exact skips _ _ (by rw [hwt]; rfl) (ha.bool hl) h
                  | false => exact runs _ _ (by rw [hwt]; rfl) (ha.bool hl) h
          · rename_i vs hl
            exact skips D F (by simp [Region.wanted, hg, yielded_no ha hgd hl]) ha h
          · exact h.elim
        · exact h.elim
theorem sx_sound : ∀ (c : Code) (Q : Exit → Fr → Hp → Prop) (F : Fr) (H : Hp), sx S W M N c Q F H → ∀ (a : Act) (w : World), Agree N F a → Sat W M H w → c.wp S.P (Lift W M N Q (writes c) a) a w := by
  intro c
  induction c with
  | skip => intro Q F H h a w ha hs; exact wp_skip ⟨F, H, h, ha, hs, Same.refl _ _⟩
  | label l => intro Q F H h a w ha hs; exact wp_label ⟨F, H, h, ha, hs, Same.refl _ _⟩
  | region i ops d =>
    intro Q F H h a w ha hs
    cases d with
    | true => simp only [sx] at h; cases h with | mk h => exact h a w ha hs
    | false =>
      simp only [sx] at h
      refine wp_region_list (sxOps_sound (K := Q .normal) (a0 := a) (wr := writes (.region i ops false)) (fun F' H' a' w' hk ha' hs' hsm => ⟨F', H', hk, ha', hs', hsm⟩) ops.toList [] F H a w ?_ h ha hs (Same.refl _ _))
      intro o ho t ht
      exact List.mem_filterMap.2 ⟨o, ho, ht⟩
  | seq x y ihx ihy =>
    intro Q F H h a w ha hs
    simp only [sx] at h
    rcases h with h | h
    case inr => cases h with | mk h => exact h a w ha hs
    have hx := ihx _ F H h a w ha hs
    refine wp_seq (wp_mono hx fun e a' w' hl => ?_)
    obtain ⟨F', H', hq, ha', hs', hsm⟩ := hl
    have up : ∀ t ∈ writes x, t ∈ writes (.seq x y) := fun t ht => by simp [writes, ht]
    have up2 : ∀ t ∈ writes y, t ∈ writes (.seq x y) := fun t ht => by simp [writes, ht]
    cases e with
    | normal =>
      refine wp_mono (ihy Q F' H' hq a' w' ha' hs') fun e2 a2 w2 hl2 => ?_
      obtain ⟨F2, H2, hq2, ha2, hs2, hsm2⟩ := hl2
      exact ⟨F2, H2, hq2, ha2, hs2, hsm.trans hsm2 up up2⟩
    | exit id => exact ⟨F', H', hq, ha', hs', hsm.trans (Same.refl [] _) up (by simp)⟩
    | goto l => exact ⟨F', H', hq, ha', hs', hsm.trans (Same.refl [] _) up (by simp)⟩
    | ret => exact ⟨F', H', hq, ha', hs', hsm.trans (Same.refl [] _) up (by simp)⟩
    | panic ch => exact ⟨F', H', hq, ha', hs', hsm.trans (Same.refl [] _) up (by simp)⟩
    | outgrown => exact ⟨F', H', hq, ha', hs', hsm.trans (Same.refl [] _) up (by simp)⟩
  | cond c x y ihx ihy =>
    intro Q F H h a w ha hs
    simp only [sx] at h
    split at h
    · rename_i t ht
      have hev := ev_eval ha ht
      have hF : Agree N (condF c t F) a := by
        unfold condF
        split
        · exact ha.bool ht
        · exact ha
      have up : ∀ t ∈ writes x, t ∈ writes (.cond c x y) := fun t ht => by simp [writes, ht]
      have up2 : ∀ t ∈ writes y, t ∈ writes (.cond c x y) := fun t ht => by simp [writes, ht]
      cases h with
      | mk h1 h2 =>
        cases t with
        | true =>
          refine wp_cond_true hev (wp_mono (ihx Q _ H (h1 rfl) a w hF hs) fun e a' w' hl => ?_)
          obtain ⟨F', H', hq, ha', hs', hsm⟩ := hl
          exact ⟨F', H', hq, ha', hs', hsm.trans (Same.refl [] _) up (by simp)⟩
        | false =>
          refine wp_cond_false hev (wp_mono (ihy Q _ H (h2 rfl) a w hF hs) fun e a' w' hl => ?_)
          obtain ⟨F', H', hq, ha', hs', hsm⟩ := hl
          exact ⟨F', H', hq, ha', hs', hsm.trans (Same.refl [] _) up2 (by simp)⟩
    · exact h.elim
  | block id c ih =>
    intro Q F H h a w ha hs
    simp only [sx] at h
    refine wp_block (wp_mono (ih _ F H h a w ha hs) fun e a' w' hl => ?_)
    obtain ⟨F', H', hq, ha', hs', hsm⟩ := hl
    cases e with
    | exit i =>
      simp only [Exit.inBlock]
      dsimp only at hq
      cases hb : Nat.beq i id with
      | true =>
        rw [hb] at hq
        rw [if_pos (Nat.eq_of_beq_eq_true hb)]
        exact ⟨F', H', hq, ha', hs', hsm⟩
      | false =>
        rw [hb] at hq
        rw [if_neg (fun e => by subst e; simp at hb)]
        exact ⟨F', H', hq, ha', hs', hsm⟩
    | normal => exact ⟨F', H', hq, ha', hs', hsm⟩
    | goto l => exact ⟨F', H', hq, ha', hs', hsm⟩
    | ret => exact ⟨F', H', hq, ha', hs', hsm⟩
    | panic ch => exact ⟨F', H', hq, ha', hs', hsm⟩
    | outgrown => exact ⟨F', H', hq, ha', hs', hsm⟩
  | exit id => intro Q F H h a w ha hs; exact wp_exit ⟨F, H, h, ha, hs, Same.refl _ _⟩
  | goto l => intro Q F H h a w ha hs; exact wp_goto ⟨F, H, h, ha, hs, Same.refl _ _⟩
  | ret => intro Q F H h a w ha hs; exact wp_ret ⟨F, H, h, ha, hs, Same.refl _ _⟩
  | loop c ih => intro Q F H h a w ha hs; simp only [sx] at h; cases h with | mk h => exact h a w ha hs
  | scope c ih => intro Q F H h a w ha hs; simp only [sx] at h; cases h with | mk h => exact h a w ha hs
  | rangeFunc f ps x y ihx ihy => intro Q F H h a w ha hs; simp only [sx] at h; cases h with | mk h => exact h a w ha hs
  | refuse s => intro Q F H h a w ha hs; simp only [sx] at h; cases h with | mk h => exact h a w ha hs
/-- What stands behind. -/
def seqQ (S : Sx) (W : World) (M : List Nat) (N : Nat) (y : Code) (Q : Exit → Fr → Hp → Prop) : Exit → Fr → Hp → Prop := fun e F' H' => match e with
    | .normal => sx S W M N y Q F' H'
    | e => Q e F' H'
def blockQ (id : Nat) (Q : Exit → Fr → Hp → Prop) : Exit → Fr → Hp → Prop := fun e F' H' => match e with
    | .exit i => bif Nat.beq i id then Q .normal F' H' else Q (.exit i) F' H'
    | e => Q e F' H'
section
variable {Q : Exit → Fr → Hp → Prop} {F : Fr} {H : Hp} {x y c : Code}
theorem sx_seq (h : sx S W M N x (seqQ S W M N y Q) F H) : sx S W M N (.seq x y) Q F H := .inl h
theorem sx_skip (h : Q .normal F H) : sx S W M N .skip Q F H := h
theorem sx_label {l : Nat} (h : Q .normal F H) : sx S W M N (.label l) Q F H := h
theorem sx_exit {i : Nat} (h : Q (.exit i) F H) : sx S W M N (.exit i) Q F H := h
theorem sx_ret (h : Q .ret F H) : sx S W M N .ret Q F H := h
theorem sx_block {id : Nat} (h : sx S W M N c (blockQ id Q) F H) : sx S W M N (.block id c) Q F H := h
theorem sx_cond {o : Operand} {t : Bool} (he : ev F o = some (.bool t)) (h : SxIf t (sx S W M N x Q (condF o true F) H) (sx S W M N y Q (condF o false F) H)) : sx S W M N (.cond o x y) Q F H := by
  simp only [sx, he]; exact h
theorem sx_region {i : Nat} {ops : Array Oper} {l : List Oper} (hl : ops = ⟨l⟩) (h : sxOps S W M N l l [] F H (Q .normal)) : sx S W M N (.region i ops false) Q F H := by subst hl; exact h
theorem sx_draw {i : Nat} {ops : Array Oper} (h : SxCode S W M N (.region i ops true) Q F H) : sx S W M N (.region i ops true) Q F H := h
theorem sx_loop (h : SxCode S W M N (.loop c) Q F H) : sx S W M N (.loop c) Q F H := h
theorem sx_scope (h : SxCode S W M N (.scope c) Q F H) : sx S W M N (.scope c) Q F H := h
theorem seqQ_n (h : sx S W M N y Q F H) : seqQ S W M N y Q .normal F H := h
theorem seqQ_e {i : Nat} (h : Q (.exit i) F H) : seqQ S W M N y Q (.exit i) F H := h
theorem seqQ_r (h : Q .ret F H) : seqQ S W M N y Q .ret F H := h
theorem blockQ_n {id : Nat} (h : Q .normal F H) : blockQ id Q .normal F H := h
theorem blockQ_r {id : Nat} (h : Q .ret F H) : blockQ id Q .ret F H := h
theorem blockQ_x {id : Nat} (h : Q .normal F H) : blockQ id Q (.exit id) F H := by simp only [blockQ, Nat.beq_refl, cond_true]; exact h
theorem blockQ_e {i id : Nat} (hb : Nat.beq i id = false) (h : Q (.exit i) F H) : blockQ id Q (.exit i) F H := by simp only [blockQ, hb, cond_false]; exact h
end
/-- An operation that asks nothing: its value. -/
def cmpV (op : BinOp) (x y : Int) : Option Value :=
  match op with
  | .eql => some (.bool (x == y))
  | .neq => some (.bool (x != y))
  | .lss => some (.bool (decide (x < y)))
  | .leq => some (.bool (decide (x ≤ y)))
  | .gtr => some (.bool (decide (x > y)))
  | .geq => some (.bool (decide (x ≥ y)))
  | _ => none
def bitV (op : BinOp) (k : IntKind) (x y : Int) : Option Value :=
  match op with
  | .and => some (.int k (bitI .and k x y))
  | .or => some (.int k (bitI .or k x y))
  | .xor => some (.int k (bitI .xor k x y))
  | .andNot => some (.int k (bitI .andNot k x y))
  | op => cmpV op x y
def strV (op : BinOp) (x y : ByteArray) : Option Value :=
  match op with
  | .eql => some (.bool (strEq x y))
  | .neq => some (.bool (!strEq x y))
  | .lss => some (.bool (strLt x y))
  | .leq => some (.bool (strLt x y || strEq x y))
  | .gtr => some (.bool (!(strLt x y || strEq x y)))
  | .geq => some (.bool (!strLt x y))
  | _ => none
def lenV (d : TD) (v : Value) : Option Value :=
  match d, v with
  | .string, .string s => some (.int .i64 (s.size : Nat))
  | .slice _, .slice _ n _ => some (.int .i64 (n : Nat))
  | .array n _, _ => some (.int .i64 (n : Nat))
  | _, _ => none
def pureOp (S : Sx) (F : Fr) (op : Op) : Option Value :=
  match op with
  | .move x | .assign x => ev F x
  | .pick c x y => match ev F c with
    | some (.bool true) => ev F x
    | some (.bool false) => ev F y
    | _ => none
  | .binOp op _ x y _ => match ev F x, ev F y with
    | some (.int k m), some (.int k' n) => bif isShift op then none else bif sameK k k' then bitV op k m n else none
    | some (.string m), some (.string n) => strV op m n
    | _, _ => none
  | .unOp .not _ x => match ev F x with
    | some (.bool b) => some (.bool !b)
    | _ => none
  | .fieldAddr t x f => match S.desc t, ev F x with
    | some (.struct fs), some (.pointer (some ⟨g, off, none⟩)) => match placeF S fs f with
      | some (d, n) => bif Nat.blt 0 n then some (.pointer (some ⟨g, off + d, none⟩)) else none
      | none => none
    | _, _ => none
  | .nilCheck x => match ev F x with
    | some (.pointer (some a)) => some (.pointer (some a))
    | some (.func (.func f) first captured) => some (.func (.func f) first captured)
    | _ => none
  | .extract x i => match ev F x with
    | some (.tuple vs) => nthV vs.toList i
    | _ => none
  | .makeFunc fn first captured => match evs F first.toList, evs F captured.toList with
    | some u, some v => some (.func fn u.toArray v.toArray)
    | _, _ => none
  | .call c => match c.callee, c.argTypes.toList, evs F c.args.toList with
    | .builtin .len, t :: _, some [v] => match S.desc t with
      | some d => lenV d v
      | none => none
    | _, _, _ => none
  | .convert src dst x => match S.desc src, S.desc dst, ev F x with
    | some .string, some .string, some (.string s) => some (.string s)
    | _, _, _ => none
  | _ => none
theorem pureOp_ok {F : Fr} {H : Hp} {o : Oper} {v : Value} {A : Value → Hp → Prop} (h : pureOp S F o.op = some v) (hA : A v H) : sxOp S W M N o F H A := by
  obtain ⟨dst, op, ty, pos, after, guard⟩ := o
  dsimp only at h
  cases op
  case move x => simp only [pureOp] at h; simp only [sxOp, h]; exact hA
  case assign x => simp only [pureOp] at h; simp only [sxOp, h]; exact hA
  case pick c x y =>
    simp only [pureOp] at h
    simp only [sxOp]
    split at h
    · rename_i hc; simp only [hc, h]; exact SxIf.tt hA
    · rename_i hc; simp only [hc, h]; exact SxIf.ff hA
    · cases h
  case binOp b t x y yt =>
    simp only [pureOp] at h
    simp only [sxOp]
    split at h
    · rename_i k m k' n hx hy
      simp only [hx, hy, sxBin]
      cases hs : isShift b with
      | true => rw [hs] at h; cases h
      | false =>
        rw [hs] at h
        simp only [cond_false] at h ⊢
        cases hk : sameK k k' with
        | false => rw [hk] at h; cases h
        | true =>
          rw [hk] at h
          simp only [cond_true] at h ⊢
          cases b <;> simp only [bitV, cmpV, Option.some.injEq, reduceCtorEq] at h <;> subst h <;> exact hA
    · rename_i m n hx hy
      simp only [hx, hy, sxBin]
      cases b <;> simp only [strV, Option.some.injEq, reduceCtorEq] at h <;> subst h <;> exact hA
    · cases h
  case unOp b t x =>
    cases b <;> simp only [pureOp, reduceCtorEq] at h
    simp only [sxOp]
    split at h
    · rename_i b hb; simp only [hb]; rw [← Option.some.inj h] at hA; exact hA
    · cases h
  case fieldAddr t x f =>
    simp only [pureOp] at h
    simp only [sxOp]
    split at h
    · rename_i fs g off hd hx
      simp only [hd, hx]
      split at h
      · rename_i d n hp
        simp only [hp]
        cases hn : Nat.blt 0 n with
        | false => rw [hn] at h; cases h
        | true => rw [hn] at h; rw [← Option.some.inj h] at hA; exact hA
      · cases h
    · cases h
  case nilCheck x =>
    simp only [pureOp] at h
    simp only [sxOp]
    split at h
    · rename_i a hx; simp only [hx]; rw [← Option.some.inj h] at hA; exact hA
    · rename_i hx; simp only [hx]; rw [← Option.some.inj h] at hA; exact hA
    · cases h
  case extract x i =>
    simp only [pureOp] at h
    simp only [sxOp]
    split at h
    · rename_i vs hx; simp only [hx, h]; exact hA
    · cases h
  case makeFunc fn first captured =>
    simp only [pureOp] at h
    simp only [sxOp]
    split at h
    · rename_i u v hu hv; simp only [hu, hv]; rw [← Option.some.inj h] at hA; exact hA
    · cases h
  case call c =>
    simp only [pureOp] at h
    simp only [sxOp]
    split at h
    · rename_i t r v hc ht hv
      split at h
      · rename_i d hd
        have hus : useSem .len [v] = false := rfl
        simp only [hc, hv, ht, hus, cond_false, sxBuiltin, hd]
        unfold lenV at h
        split at h
        · rw [← Option.some.inj h] at hA; exact hA
        · rw [← Option.some.inj h] at hA; exact hA
        · rw [← Option.some.inj h] at hA; exact hA
        · cases h
      · cases h
    · cases h
  case convert src dst x =>
    simp only [pureOp] at h
    simp only [sxOp]
    split at h
    · rename_i s h1 h2 h3; simp only [h3, sxConv, h1, h2]; rw [← Option.some.inj h] at hA; exact hA
    · cases h
  all_goals (simp only [pureOp, reduceCtorEq] at h)
/-- Is an operation run: 2; is it left out: 1; does it wait for a test: 0. -/
def status (N : Nat) (all : List Oper) (o : Oper) (D : List (Nat × Bool)) (F : Fr) : Nat :=
  bif dstOk N o.dst then
    match o.guard with
    | none => 2
    | some (j, want) => match gdst all j with
      | some d => match look F d with
        | some (.bool t) => match lookD D j with
          | some b => bif sameB t b then (bif sameB b want then 2 else 1) else 0
          | none => 0
        | some (.tuple _) => 1
        | _ => 0
      | none => 0
  else 0
def runOps (S : Sx) (N : Nat) (all : List Oper) : List Oper → List (Nat × Bool) → Fr → List Oper × Fr
  | [], _, F => ([], F)
  | o :: r, D, F => match status N all o D F with
    | 2 => match pureOp S F o.op with
      | some v => runOps S N all r D (upd o.dst v F)
      | none => (o :: r, F)
    | 1 => runOps S N all r D (upd o.dst undef F)
    | _ => (o :: r, F)
section
variable {F : Fr} {H : Hp} {K : Fr → Hp → Prop} {all r : List Oper} {o : Oper} {D : List (Nat × Bool)}
theorem ops_nil (h : K F H) : sxOps S W M N all [] D F H K := h
theorem ops_op (hs : Nat.beq (status N all o D F) 2 = true) (h : sxOp S W M N o F H fun v H' => sxOps S W M N all r D (upd o.dst v F) H' K) : sxOps S W M N all (o :: r) D F H K := by
  have hs := Nat.eq_of_beq_eq_true hs
  simp only [sxOps]
  unfold status at hs
  cases hd : dstOk N o.dst with
  | false => rw [hd] at hs; cases hs
  | true =>
    rw [hd] at hs
    simp only [cond_true] at hs ⊢
    split at hs
    · rename_i hg; exact h
    · rename_i j want hg
      split at hs
      · rename_i d hgd
        try simp only [hg, hgd]
        split at hs
        · rename_i t hl
          try simp only [hl]
          split at hs
          · rename_i b hD
            try simp only [hD]
            cases h1 : sameB t b with
            | false => rw [h1] at hs; cases hs
            | true =>
              rw [h1] at hs
              simp only [cond_true] at hs ⊢
              cases h2 : sameB b want with
              | false => rw [h2] at hs; cases hs
              | true => exact h
          · cases hs
        · cases hs
        · cases hs
      · cases hs
theorem ops_skip (hs : status N all o D F = 1) (h : sxOps S W M N all r D (upd o.dst undef F) H K) : sxOps S W M N all (o :: r) D F H K := by
  simp only [sxOps]
  unfold status at hs
  cases hd : dstOk N o.dst with
  | false => rw [hd] at hs; cases hs
  | true =>
    rw [hd] at hs
    simp only [cond_true] at hs ⊢
    split at hs
    · cases hs
    · rename_i j want hg
      split at hs
      · rename_i d hgd
        try simp only [hg, hgd]
        split at hs
        · rename_i t hl
          try simp only [hl]
          split at hs
          · rename_i b hD
            try simp only [hD]
            cases h1 : sameB t b with
            | false => rw [h1] at hs; cases hs
            | true =>
              rw [h1] at hs
              simp only [cond_true] at hs ⊢
              cases h2 : sameB b want with
              | false => exact h
              | true => rw [h2] at hs; cases hs
          · cases hs
        · rename_i vs hl
          try simp only [hl]
          exact h
        · cases hs
      · cases hs
theorem ops_guard {j d : Nat} {want t : Bool} (hd : dstOk N o.dst = true) (hg : o.guard = some (j, want)) (hgd : gdst all j = some d) (hl : look F d = some (.bool t)) (hD : lookD D j = none)
    (h : SxIf t (sxOps S W M N all (o :: r) ((j, true) :: D) ((d, some (.bool true)) :: F) H K) (sxOps S W M N all (o :: r) ((j, false) :: D) ((d, some (.bool false)) :: F) H K)) : sxOps S W M N all (o :: r) D F H K := by
  have look0 : ∀ b, look ((d, some (.bool b)) :: F) d = some (.bool b) := fun b => by simp [look]
  have lookD0 : ∀ b, lookD ((j, b) :: D) j = some b := fun b => by simp [lookD]
  simp only [sxOps, hd, hg, hgd, look0, lookD0, cond_true] at h
  simp only [sxOps, hd, hg, hgd, hl, hD, cond_true]
  cases h with
  | mk h1 h2 =>
    refine ⟨fun ht => ?_, fun ht => ?_⟩
    · have h := h1 ht
      cases want <;> exact h
    · have h := h2 ht
      cases want <;> exact h
theorem ops_run {r' : List Oper} {F' : Fr} : ∀ {r : List Oper} {F : Fr}, runOps S N all r D F = (r', F') → sxOps S W M N all r' D F' H K → sxOps S W M N all r D F H K
  | [], F, h, hk => by
    simp only [runOps, Prod.mk.injEq] at h
    obtain ⟨rfl, rfl⟩ := h
    exact hk
  | o :: r, F, h, hk => by
    unfold runOps at h
    split at h
    · rename_i hs
      split at h
      · rename_i v hv
        exact ops_op (by rw [hs]; rfl) (pureOp_ok hv (ops_run h hk))
      · simp only [Prod.mk.injEq] at h
        obtain ⟨rfl, rfl⟩ := h
        exact hk
    · rename_i hs
      exact ops_skip hs (ops_run h hk)
    · simp only [Prod.mk.injEq] at h
      obtain ⟨rfl, rfl⟩ := h
      exact hk
end
/-- The slots' values. -/
def looks (F : Fr) : List Nat → Option (List Value)
  | [] => some []
  | t :: r => match look F t with
    | some v => match looks F r with
      | some vs => some (v :: vs)
      | none => none
    | none => none
def setF : List Nat → List Value → Fr → Fr
  | t :: ts, v :: vs, F => (t, some v) :: setF ts vs F
  | _, _, F => F
def forget : List Nat → Fr → Fr
  | [], F => F
  | t :: ts, F => (t, none) :: forget ts F
theorem look_forget (F : Fr) : ∀ (ts : List Nat) (t : Nat) (v : Value), look (forget ts F) t = some v → t ∉ ts ∧ look F t = some v
  | [], t, v, h => ⟨by simp, h⟩
  | s :: ts, t, v, h => by
    simp only [forget, look] at h
    cases hb : Nat.beq s t with
    | true => rw [hb] at h; cases h
    | false =>
      rw [hb] at h
      obtain ⟨h1, h2⟩ := look_forget F ts t v h
      refine ⟨?_, h2⟩
      intro hm
      rcases List.mem_cons.1 hm with e | e
      · subst e; simp at hb
      · exact h1 e
theorem look_setF (F : Fr) : ∀ (ts : List Nat) (vs : List Value) (t : Nat) (v : Value), look (setF ts vs F) t = some v → (∃ i : Nat, ts[i]? = some t ∧ vs[i]? = some v) ∨ look F t = some v
  | [], vs, t, v, h => .inr (by simpa [setF] using h)
  | s :: ts, [], t, v, h => .inr (by simpa [setF] using h)
  | s :: ts, u :: vs, t, v, h => by
    simp only [setF, look] at h
    cases hb : Nat.beq s t with
    | true =>
      rw [hb] at h
      left
      exact ⟨0, by simp [Nat.eq_of_beq_eq_true hb], by simpa using h⟩
    | false =>
      rw [hb] at h
      rcases look_setF F ts vs t v h with ⟨i, h1, h2⟩ | h1
      · exact .inl ⟨i + 1, by simpa using h1, by simpa using h2⟩
      · exact .inr h1
theorem looks_get {F : Fr} : ∀ {ts : List Nat} {vs : List Value}, looks F ts = some vs → ∀ (i : Nat) (t : Nat) (v : Value), ts[i]? = some t → vs[i]? = some v → look F t = some v
  | [], vs, h, i, t, v, hi, hv => by simp at hi
  | s :: ts, vs, h, i, t, v, hi, hv => by
    unfold looks at h
    split at h
    · rename_i u hu
      split at h
      · rename_i us hus
        simp only [Option.some.injEq] at h
        subst h
        cases i with
        | zero => simp at hi hv; subst hi; subst hv; exact hu
        | succ i => exact looks_get hus i t v (by simpa using hi) (by simpa using hv)
      · cases h
    · cases h
def memN (t : Nat) : List Nat → Bool
  | [] => false
  | s :: r => Nat.beq s t || memN t r
theorem memN_mem {t : Nat} : ∀ {l : List Nat}, memN t l = true → t ∈ l
  | [], h => by cases h
  | s :: r, h => by
    simp only [memN, Bool.or_eq_true] at h
    rcases h with h | h
    · simp [Nat.eq_of_beq_eq_true h]
    · simp [memN_mem h]
/-- What is known less exactly. -/
def Weak (H H' : Hp) : Prop := ∀ (W : World) (M : List Nat) (w : World), Sat W M H w → Sat W M H' w
theorem Weak.pick {H H' : Hp} {ks : List Nat} (hk : pickH H ks = some H') (hn : nodupB ks = true) : Weak H H' := fun _ _ _ hs => hs.pick hk hn
theorem Weak.trans {A B C : Hp} (h : Weak A B) (k : Weak B C) : Weak A C := fun W M w hs => k W M w (h W M w hs)
/-- The end of a round. -/
inductive SxRound {σ : Type} (slots : List Nat) (vals : σ → List Value) (hp : σ → Hp) (ok : σ → Prop) (μ : σ → Nat) (m : Nat) (F : Fr) (H : Hp) : Prop
  | via (s : σ) (hv : looks F slots = some (vals s)) (hw : Weak H (hp s)) (ho : ok s) (hm : μ s < m)
theorem SxRound.mk {σ : Type} {slots : List Nat} {vals : σ → List Value} {hp : σ → Hp} {ok : σ → Prop} {μ : σ → Nat} {m : Nat} {F : Fr} {H : Hp} (s : σ) (ks : List Nat) (hv : looks F slots = some (vals s)) (hk : pickH H ks = some (hp s)) (hn : nodupB ks = true) (ho : ok s) (hm : μ s < m) : SxRound slots vals hp ok μ m F H :=
  .via s hv (Weak.pick hk hn) ho hm
def loopQ {σ : Type} (slots : List Nat) (vals : σ → List Value) (hp : σ → Hp) (ok : σ → Prop) (μ : σ → Nat) (m : Nat) (Q : Exit → Fr → Hp → Prop) : Exit → Fr → Hp → Prop := fun e F' H' => match e with
      | .normal => SxRound slots vals hp ok μ m F' H'
      | e => Q e F' H'
section
variable {σ : Type} {slots : List Nat} {vals : σ → List Value} {hp : σ → Hp} {ok : σ → Prop} {μ : σ → Nat} {m : Nat} {Q : Exit → Fr → Hp → Prop} {F : Fr} {H : Hp}
theorem loopQ_n (h : SxRound slots vals hp ok μ m F H) : loopQ slots vals hp ok μ m Q .normal F H := h
theorem loopQ_e {i : Nat} (h : Q (.exit i) F H) : loopQ slots vals hp ok μ m Q (.exit i) F H := h
theorem loopQ_r (h : Q .ret F H) : loopQ slots vals hp ok μ m Q .ret F H := h
end
theorem SxCode.loop {σ : Type} {c : Code} {Q : Exit → Fr → Hp → Prop} {F : Fr} {H : Hp} (slots wr : List Nat) (vals : σ → List Value) (hp : σ → Hp) (ok : σ → Prop) (μ : σ → Nat) (s0 : σ) (ks : List Nat)
    (hwr : (writes c).all (fun t => memN t wr) = true) (hv : looks F slots = some (vals s0)) (hk : pickH H ks = some (hp s0)) (hn : nodupB ks = true) (h0 : ok s0)
    (hr : ∀ s, ok s → sx S W M N c (loopQ slots vals hp ok μ (μ s) Q) (setF slots (vals s) (forget wr F)) (hp s)) : SxCode S W M N (.loop c) Q F H := by
  have hsub : ∀ t ∈ writes c, t ∈ wr := fun t ht => memN_mem (List.all_eq_true.1 hwr t ht)
  refine ⟨fun a w ha hs => ?_⟩
  have agree : ∀ s a', Agree N F a → Same wr a a' → a'.tmps.size = N → a'.defers = [] → (∀ (i : Nat) t v, slots[i]? = some t → (vals s)[i]? = some v → a'.tmps.getD t undef = v) → Agree N (setF slots (vals s) (forget wr F)) a' := by
    intro s a' ha hsm hsz hdf hsl
    refine ⟨hsz, hdf, fun t v hl => ?_⟩
    rcases look_setF _ _ _ t v hl with ⟨i, h1, h2⟩ | h1
    · exact hsl i t v h1 h2
    · obtain ⟨h2, h3⟩ := look_forget F wr t v h1
      rw [hsm t h2]
      exact ha.slots t v h3
  -- a state that fits, and the greatest measure that it may have
  have I0 : ∃ s, ok s ∧ Agree N (setF slots (vals s) (forget wr F)) a ∧ Sat W M (hp s) w ∧ Same (writes c) a a ∧ μ s = μ s0 :=
    ⟨s0, h0, agree s0 a ha (Same.refl _ _) ha.size ha.defers (fun i t v h1 h2 => ha.slots t v (looks_get hv i t v h1 h2)), hs.pick hk hn, Same.refl _ _, rfl⟩
  have key : ∀ (n : Nat) (a1 : Act) (w1 : World) (s : σ), μ s = n → ok s → Agree N (setF slots (vals s) (forget wr F)) a1 → Sat W M (hp s) w1 → Same (writes c) a a1 → ∀ (b : Frame) (k : List Item) (cs : List Frame),
      ∃ e a' w', Lift W M N Q (writes (.loop c)) a e a' w' ∧ Arrives S.P (lone (b.at a1 (.code c :: .inLoop c :: k)) cs w1) b k cs e a' w' := by
    intro n
    induction n using Nat.strongRecOn with
    | _ n ih =>
      intro a1 w1 s hn ho ha1 hs1 hsm1 b k cs
      have h1 := sx_sound c _ _ _ (hr s ho) a1 w1 ha1 hs1
      obtain ⟨e, a2, w2, ⟨F2, H2, hq, ha2, hs2, hsm2⟩, harr⟩ := h1 b (.inLoop c :: k) cs
      have hsm : Same (writes c) a a2 := hsm1.trans hsm2 (fun _ h => h) (fun _ h => h)
      cases e with
      | normal =>
        cases hq with
        | via s' hv' hw' ho' hm' =>
          have hwrs : Same wr a a2 := hsm.trans (Same.refl [] _) hsub (by simp)
          have ha3 := agree s' a2 ha hwrs ha2.size ha2.defers (fun i t v h1 h2 => ha2.slots t v (looks_get hv' i t v h1 h2))
          obtain ⟨e3, a3, w3, hq3, harr3⟩ := ih (μ s') (hn ▸ hm') a2 w2 s' rfl ho' ha3 (hw' _ _ _ hs2) hsm b k cs
          exact ⟨e3, a3, w3, hq3, .of_steps (Steps.trans harr (.one step_inLoop)) harr3⟩
      | exit id => exact ⟨_, a2, w2, ⟨F2, H2, hq, ha2, hs2, hsm⟩, .pass (x := .inLoop c) rfl (fun _ _ => .inl (by simp)) harr⟩
      | goto l => exact ⟨_, a2, w2, ⟨F2, H2, hq, ha2, hs2, hsm⟩, .pass (x := .inLoop c) rfl (fun _ _ => .inl (by simp)) harr⟩
      | ret => exact ⟨_, a2, w2, ⟨F2, H2, hq, ha2, hs2, hsm⟩, .pass (x := .inLoop c) rfl (fun _ _ => .inl (by simp)) harr⟩
      | panic ch => exact ⟨_, a2, w2, ⟨F2, H2, hq, ha2, hs2, hsm⟩, .pass (x := .inLoop c) rfl (fun _ _ => .inl (by simp)) harr⟩
      | outgrown => exact ⟨_, a2, w2, ⟨F2, H2, hq, ha2, hs2, hsm⟩, .pass (x := .inLoop c) rfl (fun _ _ => .inl (by simp)) harr⟩
  obtain ⟨s, ho, ha1, hs1, hsm1, _⟩ := I0
  intro b k cs
  obtain ⟨e, a', w', hq, harr⟩ := key _ a w s rfl ho ha1 hs1 hsm1 b k cs
  exact ⟨e, a', w', hq, .of_steps (.one step_loop) harr⟩
/-- What two ways have in common where they meet. -/
inductive SxMeet {σ : Type} (slots : List Nat) (vals : σ → List Value) (hp : σ → Hp) (ok : σ → Prop) (F : Fr) (H : Hp) : Prop
  | via (s : σ) (hv : looks F slots = some (vals s)) (hw : Weak H (hp s)) (ho : ok s)
theorem SxMeet.mk {σ : Type} {slots : List Nat} {vals : σ → List Value} {hp : σ → Hp} {ok : σ → Prop} {F : Fr} {H : Hp} (s : σ) (ks : List Nat) (hv : looks F slots = some (vals s)) (hk : pickH H ks = some (hp s)) (hn : nodupB ks = true) (ho : ok s) : SxMeet slots vals hp ok F H :=
  .via s hv (Weak.pick hk hn) ho
def meetQ {σ : Type} (slots : List Nat) (vals : σ → List Value) (hp : σ → Hp) (ok : σ → Prop) (Q : Exit → Fr → Hp → Prop) : Exit → Fr → Hp → Prop := fun e F' H' => match e with
      | .normal => SxMeet slots vals hp ok F' H'
      | e => Q e F' H'
section
variable {σ : Type} {slots : List Nat} {vals : σ → List Value} {hp : σ → Hp} {ok : σ → Prop} {Q : Exit → Fr → Hp → Prop} {F : Fr} {H : Hp}
theorem meetQ_n (h : SxMeet slots vals hp ok F H) : meetQ slots vals hp ok Q .normal F H := h
theorem meetQ_e {i : Nat} (h : Q (.exit i) F H) : meetQ slots vals hp ok Q (.exit i) F H := h
theorem meetQ_r (h : Q .ret F H) : meetQ slots vals hp ok Q .ret F H := h
theorem meetQ_g {l : Nat} (h : Q (.goto l) F H) : meetQ slots vals hp ok Q (.goto l) F H := h
end
/-- Two ways meet: what stands behind is walked once. -/
theorem sx_meet {σ : Type} {x y : Code} {Q : Exit → Fr → Hp → Prop} {F : Fr} {H : Hp} (slots wr : List Nat) (vals : σ → List Value) (hp : σ → Hp) (ok : σ → Prop)
    (hwr : (writes x).all (fun t => memN t wr) = true) (hx : sx S W M N x (meetQ slots vals hp ok Q) F H)
    (hy : ∀ s, ok s → sx S W M N y Q (setF slots (vals s) (forget wr F)) (hp s)) : sx S W M N (.seq x y) Q F H := by
  refine .inr ⟨fun a w ha hs => ?_⟩
  have hsub : ∀ t ∈ writes x, t ∈ wr := fun t ht => memN_mem (List.all_eq_true.1 hwr t ht)
  have h1 := sx_sound x _ _ _ hx a w ha hs
  refine wp_seq (wp_mono h1 fun e a' w' hl => ?_)
  obtain ⟨F', H', hq, ha', hs', hsm⟩ := hl
  have up : ∀ t ∈ writes x, t ∈ writes (.seq x y) := fun t ht => by simp [writes, ht]
  have up2 : ∀ t ∈ writes y, t ∈ writes (.seq x y) := fun t ht => by simp [writes, ht]
  cases e with
  | normal =>
    cases hq with
    | via s hv hw ho =>
      have hwrs : Same wr a a' := hsm.trans (Same.refl [] _) hsub (by simp)
      have ha3 : Agree N (setF slots (vals s) (forget wr F)) a' := by
        refine ⟨ha'.size, ha'.defers, fun t v hl => ?_⟩
        rcases look_setF _ _ _ t v hl with ⟨i, h1, h2⟩ | h1
        · exact ha'.slots t v (looks_get hv i t v h1 h2)
        · obtain ⟨h2, h3⟩ := look_forget F wr t v h1
          rw [hwrs t h2]
          exact ha.slots t v h3
      refine wp_mono (sx_sound y _ _ _ (hy s ho) a' w' ha3 (hw _ _ _ hs')) fun e2 a2 w2 hl2 => ?_
      obtain ⟨F2, H2, hq2, ha2, hs2, hsm2⟩ := hl2
      exact ⟨F2, H2, hq2, ha2, hs2, hsm.trans hsm2 up up2⟩
  | exit id => exact ⟨F', H', hq, ha', hs', hsm.trans (Same.refl [] _) up (by simp)⟩
  | goto l => exact ⟨F', H', hq, ha', hs', hsm.trans (Same.refl [] _) up (by simp)⟩
  | ret => exact ⟨F', H', hq, ha', hs', hsm.trans (Same.refl [] _) up (by simp)⟩
  | panic ch => exact ⟨F', H', hq, ha', hs', hsm.trans (Same.refl [] _) up (by simp)⟩
  | outgrown => exact ⟨F', H', hq, ha', hs', hsm.trans (Same.refl [] _) up (by simp)⟩
/-- Is this a place where ways meet? -/
def falls : Code → Bool
  | .exit _ | .ret | .goto _ => false
  | .seq x y => falls x && falls y
  | .cond _ x y => falls x || falls y
  | _ => true
def forks : Code → Bool
  | .seq x y => forks x || forks y
  | .cond _ x y => (falls x && falls y) || forks x || forks y
  | .block _ c => hasIf c
  | _ => false
where hasIf : Code → Bool
  | .seq x y => hasIf x || hasIf y
  | .cond _ _ _ => true
  | .block _ c => hasIf c
  | _ => false
theorem sx_seqN {x y : Code} {Q : Exit → Fr → Hp → Prop} {F : Fr} {H : Hp} (_hf : forks x = false) (h : sx S W M N x (seqQ S W M N y Q) F H) : sx S W M N (.seq x y) Q F H := .inl h
end
attribute [irreducible] sx sxOps seqQ blockQ loopQ meetQ
end Go.Proofs.Ytdififdnnpgjoaa
/- A symbolic walk: a function. No program is named here. -/
namespace Go.Proofs.Ytdififdnnpgjoaa
open Go.RowKit

inductive TAll (Q : Nat → TInf → Prop) : List (Nat × TInf) → Prop
  | nil : TAll Q []
  | cons {t : Nat} {i : TInf} {r : List (Nat × TInf)} (h : Q t i) (h' : TAll Q r) : TAll Q ((t, i) :: r)
theorem tl_all {Q : Nat → TInf → Prop} : ∀ {l : List (Nat × TInf)}, TAll Q l → ∀ t i, tl l t = some i → Q t i
  | [], _, t, i, h => by cases h
  | (s, u) :: r, hq, t, i, h => by
    cases hq with
    | cons h1 h2 =>
      unfold tl at h
      cases hb : Nat.beq s t with
      | true =>
        rw [hb] at h
        obtain rfl := Nat.eq_of_beq_eq_true hb
        obtain rfl := Option.some.inj h
        exact h1
      | false => rw [hb] at h; exact tl_all h2 t i h
def sxRes (S : Sx) (F : Fr) (H : Hp) : List ResultVar → (List Value → Prop) → Prop
  | [], A => A []
  | .tmp t :: r, A => match look F t with
    | some v => sxRes S F H r fun vs => A (v :: vs)
    | none => False
  | .cell t ty :: r, A => match look F t, tl S.T ty with
    | some (.pointer (some ⟨g, off, none⟩)), some i => bif isAggD i.d then SxLdN H g off i.size fun vs => sxRes S F H r fun us => A (.agg vs.toArray :: us) else SxLd H g off fun v => sxRes S F H r fun us => A (v :: us)
    | _, _ => False
def resV : List Value → Value
  | [v] => v
  | vs => .tuple vs.toArray
/-- The end of a function. -/
inductive SxDone (W : World) (M : List Nat) (R : Ending → World → Prop) (v : Value) (H : Hp) : Prop
  | mk (h : ∀ w, Sat W M H w → R (.returned v) w)
def argF (i : Nat) : List Value → Fr
  | [] => []
  | v :: r => (i, some v) :: argF (i + 1) r
theorem argF_get : ∀ (l : List Value) (i t : Nat) (v : Value), look (argF i l) t = some v → i ≤ t ∧ l[t - i]? = some v
  | [], i, t, v, h => by simp [argF, look] at h
  | u :: r, i, t, v, h => by
    simp only [argF, look] at h
    cases hb : Nat.beq i t with
    | true =>
      rw [hb] at h
      have : i = t := Nat.eq_of_beq_eq_true hb
      subst this
      simpa using h
    | false =>
      rw [hb] at h
      obtain ⟨h1, h2⟩ := argF_get r (i + 1) t v h
      refine ⟨by omega, ?_⟩
      rw [show t - i = (t - (i + 1)) + 1 by omega]
      simpa using h2
section
variable {S : Sx} {W : World} {M : List Nat} {N : Nat}
theorem sxRes_get {F : Fr} {H : Hp} {a : Act} {w : World} (ha : Agree N F a) (hs : Sat W M H w) : ∀ (rs : List ResultVar) (A : List Value → Prop), sxRes S F H rs A →
    ∃ vs, A vs ∧ (rs.mapM fun (r : ResultVar) => match r with
      | .tmp t => (pure (a.tmps.getD t undef) : Sem Value)
      | .cell x t => do loadVar t (← asAddr (a.tmps.getD x undef))).run S.P w = .ok vs w
  | [], A, h => ⟨[], h, rfl⟩
  | .tmp t :: r, A, h => by
    simp only [sxRes] at h
    split at h
    · rename_i v hv
      obtain ⟨vs, hA, hr⟩ := sxRes_get ha hs r _ h
      have hv' := ha.slots t v hv
      refine ⟨v :: vs, hA, ?_⟩
      rw [List.mapM_cons]
      simp only [Sem.run_bind, Sem.run_pure, Result.andThen_ok, hv', hr]
    · exact h.elim
  | .cell t ty :: r, A, h => by
    simp only [sxRes] at h
    split at h
    · rename_i g off i hv hi
      have hv' := ha.slots t _ hv
      have has : asAddr (Value.pointer (some ⟨g, off, none⟩)) = pure ⟨g, off, none⟩ := rfl
      cases hag : isAggD i.d with
      | true =>
        rw [hag] at h
        simp only [cond_true] at h
        obtain ⟨us, h, hl, hc⟩ := h.get hs
        obtain ⟨vs, hA, hr⟩ := sxRes_get ha hs r _ h
        have hload := run_loadVar_many (P := S.P) (by rw [run_agg hi w, hag]) (run_size' hi w) hl hc
        refine ⟨_ :: vs, hA, ?_⟩
        rw [List.mapM_cons]
        simp only [Sem.run_bind, Sem.run_pure, Result.andThen_ok, hv', has, hload, hr]
      | false =>
        rw [hag] at h
        simp only [cond_false] at h
        obtain ⟨u, h, hc⟩ := h.get hs
        obtain ⟨vs, hA, hr⟩ := sxRes_get ha hs r _ h
        have hload := run_loadVar_one (P := S.P) (by rw [run_agg hi w, hag]) hc
        refine ⟨u :: vs, hA, ?_⟩
        rw [List.mapM_cons]
        simp only [Sem.run_bind, Sem.run_pure, Result.andThen_ok, hv', has, hload, hr]
    · exact h.elim
def finQ (S : Sx) (W : World) (M : List Nat) (rs : Array ResultVar) (R : Ending → World → Prop) : Exit → Fr → Hp → Prop := fun e F H => match e with
  | .normal => sxRes S F H rs.toList fun vs => SxDone W M R (resV vs) H
  | .ret => sxRes S F H rs.toList fun vs => SxDone W M R (resV vs) H
  | _ => False
section
variable {R : Ending → World → Prop} {F : Fr} {H : Hp} {rs : Array ResultVar} {l : List ResultVar} {A : List Value → Prop}
theorem finQ_n (hl : rs = ⟨l⟩) (h : sxRes S F H l fun vs => SxDone W M R (resV vs) H) : finQ S W M rs R .normal F H := by subst hl; exact h
theorem finQ_r (hl : rs = ⟨l⟩) (h : sxRes S F H l fun vs => SxDone W M R (resV vs) H) : finQ S W M rs R .ret F H := by subst hl; exact h
theorem res_nil (h : A []) : sxRes S F H [] A := h
theorem res_tmp {t : Nat} {v : Value} {r : List ResultVar} (hv : look F t = some v) (h : sxRes S F H r fun vs => A (v :: vs)) : sxRes S F H (.tmp t :: r) A := by simp only [sxRes, hv]; exact h
theorem res_agg {t ty : Nat} {g off : Nat} {i : TInf} {r : List ResultVar} (hv : look F t = some (.pointer (some ⟨g, off, none⟩))) (hi : tl S.T ty = some i) (ha : isAggD i.d = true) (h : SxLdN H g off i.size fun vs => sxRes S F H r fun us => A (.agg vs.toArray :: us)) : sxRes S F H (.cell t ty :: r) A := by
  simp only [sxRes, hv, hi, ha, cond_true]; exact h
theorem res_one {t ty : Nat} {g off : Nat} {i : TInf} {r : List ResultVar} (hv : look F t = some (.pointer (some ⟨g, off, none⟩))) (hi : tl S.T ty = some i) (ha : isAggD i.d = false) (h : SxLd H g off fun v => sxRes S F H r fun us => A (v :: us)) : sxRes S F H (.cell t ty :: r) A := by
  simp only [sxRes, hv, hi, ha, cond_false]; exact h
end
theorem results_of {fn : Func} {tmps : Array Value} {w : World} {P : Program} {vs : List Value} (h : (fn.results.toList.mapM fun (r : ResultVar) => match r with
      | .tmp t => (pure (tmps.getD t undef) : Sem Value)
      | .cell x t => do loadVar t (← asAddr (tmps.getD x undef))).run P w = .ok vs w) : (results fn tmps).run P w = .ok (resV vs) w := by
  have : (results fn tmps).run P w = ((fn.results.toList.mapM fun (r : ResultVar) => match r with
      | .tmp t => (pure (tmps.getD t undef) : Sem Value)
      | .cell x t => do loadVar t (← asAddr (tmps.getD x undef))) >>= fun (us : List Value) => (pure (resV us) : Sem Value)).run P w := by
    unfold results
    rw [Array.mapM_eq_mapM_toList]
    have hv : ∀ us : List Value, (if h : us.toArray.size = 1 then us.toArray[0] else .tuple us.toArray) = resV us := by
      intro us
      cases us with
      | nil => rfl
      | cons u us => cases us with
        | nil => rfl
        | cons x us => simp [resV]
    simp only [bind_map_left, hv]
    rfl
  rw [this, Sem.run_bind, h]
  rfl
theorem sx_fn {f : Nat} {fn : Func} {c : Code} {args : Array Value} {R : Ending → World → Prop} {H0 : Hp} (hf : S.P.funcs[f]? = some fn) (hb : fn.body = some c) (hN : fn.ntmps = N) (hl : Nat.ble args.size N = true) {w : World} (hs : Sat W M H0 w)
    (h : sx S W M N c (finQ S W M fn.results R) (argF 0 args.toList) H0) : Calls S.P f args w R := by
  have hle : args.size ≤ N := by simpa using hl
  refine calls_of_wp hf hb ?_
  have ha : Agree N (argF 0 args.toList) { tmps := args ++ Array.replicate (fn.ntmps - args.size) undef, defers := [] } := by
    refine ⟨by simp [hN]; omega, rfl, fun t v hl => ?_⟩
    obtain ⟨_, h2⟩ := argF_get _ 0 t v hl
    rw [Nat.sub_zero, Array.getElem?_toList] at h2
    have hlt := (Array.getElem?_eq_some_iff.1 h2).1
    rw [Array.getElem?_eq_getElem hlt] at h2
    simp [Array.getElem?_append, hlt]
    exact Option.some.inj h2
  refine wp_mono (sx_sound c _ _ _ h _ w ha hs) fun e a w hq => ?_
  obtain ⟨F, H, hq, ha', hs', _⟩ := hq
  cases e with
  | normal =>
    obtain ⟨vs, hA, hr⟩ := sxRes_get (S := S) ha' hs' _ _ hq
    cases hA with | mk hA => exact ⟨ha'.defers, _, results_of hr, hA w hs'⟩
  | ret =>
    obtain ⟨vs, hA, hr⟩ := sxRes_get (S := S) ha' hs' _ _ hq
    cases hA with | mk hA => exact ⟨ha'.defers, _, results_of hr, hA w hs'⟩
  | exit id => exact hq.elim
  | goto l => exact hq.elim
  | panic ch => exact hq.elim
  | outgrown => exact hq.elim
end
section
variable {W : World} {M : List Nat} {H : Hp} {w : World}
theorem Touch.refl (M : List Nat) (W : World) : Touch M W W := ⟨rfl, rfl, rfl, Nat.le_refl _, fun _ _ _ => rfl⟩
theorem Touch.below (h : Touch [] W w) : Below W.heap.size W w := ⟨h.os, h.tape, h.output, h.size, fun k hk => h.block k hk (by simp)⟩
theorem Touch.grown {g : Nat} (h : Touch [g] W w) : W.grownBy w (some g) := ⟨h.os, h.tape, h.output, h.size, fun k hk hne => h.block k hk (by simp; exact fun e => hne (by rw [e]))⟩
theorem Sat.nil (M : List Nat) (W : World) : Sat W M [] W := ⟨Touch.refl _ _, fun i e h => by simp at h, fun i e h => by simp at h, fun i j a b _ h => by simp at h⟩
theorem Sat.cons_rd (hs : Sat W M H w) {ao : Option Addr} {cs : List Value} (h : Rd w ao cs) (hd : ∀ (i : Nat) (e : Ent) g, H[i]? = some e → e.own = some g → ¬ (Ent.rd ao cs).uses g) : Sat W M (.rd ao cs :: H) w := by
  refine ⟨hs.touch, fun i x hi => ?_, fun i x hi g hg => ?_, fun i j a b hij hi hj g hg => ?_⟩
  · cases i with
    | zero => simp at hi; exact hi ▸ h
    | succ i => exact hs.holds i x (by simpa using hi)
  · cases i with
    | zero => simp at hi; subst hi; cases hg
    | succ i => exact hs.own i x (by simpa using hi) g hg
  · cases i with
    | zero => simp at hi; subst hi; cases hg
    | succ i =>
      cases j with
      | zero => simp at hi hj; subst hj; exact hd i a g hi hg
      | succ j => exact hs.sep i j a b (fun e => hij (by rw [e])) (by simpa using hi) (by simpa using hj) g hg
theorem Rd.of_row {ao : Option Addr} {n cap e k : Nat} {cs : List Value} (h : w.ownsRow 0 e k (.slice ao n cap) n cs) (hm : cs.length ≤ maxLen) : Rd w ao cs := by
  refine ⟨hm, fun hn => ?_⟩
  have hl := h.1
  rcases h.2 with ⟨_, h0⟩ | ⟨g, c, cur, hv, _, hh, _⟩
  · rw [h0, Nat.zero_mul] at hl; omega
  · simp only [Value.slice.injEq] at hv
    obtain ⟨rfl, _, rfl⟩ := hv
    exact ⟨g, 0, rfl, (Array.getElem?_eq_some_iff.1 hh).1, fun j hj => by rw [Nat.zero_add]; exact World.ownsRow.cellAt h j (by omega)⟩
theorem Sat.rowRd (hs : Sat W M H w) (p : Nat) {ao : Option Addr} {n cap e k : Nat} {cs : List Value} (hp : H[p]? = some (.row ao n cap e k cs)) (hm : cs.length ≤ maxLen) : Rd w ao cs := Rd.of_row (hs.row p hp) hm
/-- Cells that are read, where nothing is written. -/
theorem Sat.rds (W : World) (H : Hp) (h : ∀ (i : Nat) (e : Ent), H[i]? = some e → e.own = none ∧ e.Holds W) : Sat W [] H W :=
  ⟨Touch.refl _ _, fun i e hi => (h i e hi).2, fun i e hi g hg => (by rw [(h i e hi).1] at hg; cases hg), fun i j a b _ hi _ g hg => (by rw [(h i a hi).1] at hg; cases hg)⟩
theorem Sat.cons_own (hs : Sat W M H w) {e : Ent} {g : Nat} (h : e.Holds w) (hu : ∀ b, e.uses b → b = g) (hg : g ∈ M ∨ W.heap.size ≤ g) (hd : ∀ (i : Nat) (x : Ent), H[i]? = some x → ¬ x.uses g) : Sat W M (e :: H) w := by
  refine ⟨hs.touch, fun i x hi => ?_, fun i x hi b hb => ?_, fun i j a b hij hi hj k hk => ?_⟩
  · cases i with
    | zero => simp at hi; exact hi ▸ h
    | succ i => exact hs.holds i x (by simpa using hi)
  · cases i with
    | zero => simp at hi; subst hi; rw [hu b (Ent.own_uses hb)]; exact hg.symm
    | succ i => exact hs.own i x (by simpa using hi) b hb
  · cases i with
    | zero =>
      cases j with
      | zero => exact absurd rfl hij
      | succ j => simp at hi hj; subst hi; rw [hu k (Ent.own_uses hk)]; exact hd j b hj
    | succ i =>
      cases j with
      | zero =>
        simp at hi hj
        subst hj
        intro hbk
        have := hu k hbk
        subst this
        exact hd i a hi (Ent.own_uses hk)
      | succ j => exact hs.sep i j a b (fun e => hij (by rw [e])) (by simpa using hi) (by simpa using hj) k hk
end
section
variable {S : Sx} {W : World} {M : List Nat} {f : Nat} {args : Array Value} {H : Hp} {A : Value → Hp → Prop}
theorem SxCall.pure {v : Value} (hc : ∀ w, Calls S.P f args w fun e w' => e = .returned v ∧ w = w') (h : A v H) : SxCall S W M f args H A :=
  ⟨fun w hs => (hc w).mono fun e w' he => ⟨v, H, he.1, he.2 ▸ hs, h⟩⟩
theorem SxCall.quiet {v : Value} (hc : ∀ w, Calls S.P f args w fun e w' => e = .returned v ∧ Below w.heap.size w w') (h : A v H) : SxCall S W M f args H A :=
  ⟨fun w hs => (hc w).mono fun e w' he => ⟨v, H, he.1, hs.below he.2, h⟩⟩
/-- A call that only makes memory, by what holds of memory. -/
theorem SxCall.quietS {v : Value} (hc : ∀ w, Sat W M H w → Calls S.P f args w fun e w' => e = .returned v ∧ Below w.heap.size w w') (h : A v H) : SxCall S W M f args H A :=
  ⟨fun w hs => (hc w hs).mono fun e w' he => ⟨v, H, he.1, hs.below he.2, h⟩⟩
theorem SxCall.at {R : World → Ending → World → Prop} (hc : ∀ w, Sat W M H w → Calls S.P f args w (R w)) (h : ∀ w e w', Sat W M H w → R w e w' → ∃ v H', e = .returned v ∧ Sat W M H' w' ∧ A v H') : SxCall S W M f args H A :=
  ⟨fun w hs => (hc w hs).mono fun e w' he => h w e w' hs he⟩
end
attribute [irreducible] finQ sxRes
end Go.Proofs.Ytdififdnnpgjoaa
/- A symbolic walk: the stops, answered. No program is named here. -/
namespace Go.Proofs.Ytdififdnnpgjoaa
open Go.RowKit

section
variable {A B : Prop}
theorem SxIf.yes {p : Prop} [Decidable p] (h : p) (hA : A) : SxIf (decide p) A B := ⟨fun _ => hA, fun h' => absurd h (by simpa using h')⟩
theorem SxIf.no {p : Prop} [Decidable p] (h : ¬ p) (hB : B) : SxIf (decide p) A B := ⟨fun h' => absurd (by simpa using h') h, fun _ => hB⟩
theorem SxIf.dec {p : Prop} [Decidable p] (h1 : p → A) (h2 : ¬ p → B) : SxIf (decide p) A B := ⟨fun h => h1 (by simpa using h), fun h => h2 (by simpa using h)⟩
theorem SxIf.eq {x y : Int} (h1 : x = y → A) (h2 : x ≠ y → B) : SxIf (x == y) A B := ⟨fun h => h1 (by simpa using h), fun h => h2 (by simpa using h)⟩
theorem SxIf.ne {x y : Int} (h1 : x ≠ y → A) (h2 : x = y → B) : SxIf (x != y) A B := ⟨fun h => h1 (by simpa using h), fun h => h2 (by simpa using h)⟩
theorem SxIf.eqT {x y : Int} (h : x = y) (hA : A) : SxIf (x == y) A B := SxIf.eq (fun _ => hA) (fun h' => absurd h h')
theorem SxIf.eqF {x y : Int} (h : x ≠ y) (hB : B) : SxIf (x == y) A B := SxIf.eq (fun h' => absurd h' h) (fun _ => hB)
theorem SxIf.neT {x y : Int} (h : x ≠ y) (hA : A) : SxIf (x != y) A B := SxIf.ne (fun _ => hA) (fun h' => absurd h' h)
theorem SxIf.neF {x y : Int} (h : x = y) (hB : B) : SxIf (x != y) A B := SxIf.ne (fun h' => absurd h h') (fun _ => hB)
theorem SxIf.nt {t : Bool} (h : SxIf t B A) : SxIf (!t) A B := by
  cases h with | mk h1 h2 => exact ⟨fun h => h2 (by simpa using h), fun h => h1 (by simpa using h)⟩
theorem SxIf.at {t : Bool} (h : t = true) (hA : A) : SxIf t A B := ⟨fun _ => hA, fun h' => absurd (h.symm.trans h') (by decide)⟩
theorem SxIf.af {t : Bool} (h : t = false) (hB : B) : SxIf t A B := ⟨fun h' => absurd (h.symm.trans h') (by decide), fun _ => hB⟩
theorem toList_data (a : ByteArray) : a.toList = a.data.toList := by
  have key : ∀ (n i : Nat) (acc : List UInt8), a.size - i = n → ByteArray.toList.loop a i acc = acc.reverse ++ a.data.toList.drop i := by
    intro n
    induction n with
    | zero =>
      intro i acc h
      unfold ByteArray.toList.loop
      rw [if_neg (by omega), List.drop_of_length_le (by simp; omega)]
      simp
    | succ n ih =>
      intro i acc h
      unfold ByteArray.toList.loop
      have hi : i < a.data.toList.length := by simp; omega
      rw [if_pos (by omega), ih (i + 1) _ (by omega), List.drop_eq_getElem_cons hi]
      have hg : a.get! i = a.data.toList[i] := by
        have : i < a.data.size := by simpa using hi
        simp only [ByteArray.get!, getElem!_pos a.data i this]; simp
      simp [hg]
  have := key a.size 0 [] (by omega)
  simpa [ByteArray.toList] using this
theorem strEq_iff (a b : ByteArray) : strEq a b = true ↔ a = b := by
  unfold strEq
  rw [toList_data, toList_data, beq_iff_eq]
  exact ⟨fun h => ByteArray.ext (Array.ext' h), fun h => by rw [h]⟩
theorem SxIf.str {a b : ByteArray} (h1 : a = b → A) (h2 : a ≠ b → B) : SxIf (strEq a b) A B :=
  ⟨fun h => h1 ((strEq_iff a b).1 h), fun h => h2 fun e => by rw [(strEq_iff a b).2 e] at h; cases h⟩
end
section
variable {W : World} {M : List Nat} {H : Hp} {w : World}
theorem Sat.oneRd (W : World) {ao : Option Addr} {cs : List Value} (h : Rd W ao cs) : Sat W [] [.rd ao cs] W := (Sat.nil [] W).cons_rd h (by intro i e g hi; simp at hi)
theorem Sat.twoRd (W : World) {ao bo : Option Addr} {cs ds : List Value} (h : Rd W ao cs) (k : Rd W bo ds) : Sat W [] [.rd ao cs, .rd bo ds] W :=
  (Sat.oneRd W k).cons_rd h (by
    intro i e g hi hg
    cases i with
    | zero => simp at hi; subst hi; cases hg
    | succ i => simp at hi)
theorem Sat.oneBlk (W : World) {g e : Nat} {cs : List Value} (h : Blk W g e cs) : Sat W [g] [.blk g e cs] W :=
  (Sat.nil [g] W).cons_own (e := .blk g e cs) (g := g) h (fun _ h => h) (.inl (by simp)) (by intro i e hi; simp at hi)
end
end Go.Proofs.Ytdififdnnpgjoaa
/- A symbolic walk: a region that draws its order. No program is named here. -/
namespace Go.Proofs.Ytdififdnnpgjoaa
open Go.RowKit

def spoilt (sp : List Nat) (listed : Array Bool) : Bool := sp.any fun s => listed.getD s false
section
variable {P : Program} {ops : Array Oper} {Q : Exit → Act → World → Prop} {S0 : World → Prop} {sp : List Nat}
/-- Whatever order is picked, and S0 holds behind every operation, till one of 'sp' has come up. -/
def wpAnyX (P : Program) (ops : Array Oper) (Q : Exit → Act → World → Prop) (S0 : World → Prop) (sp : List Nat) : Nat → Array Bool → Act → World → Prop
  | 0, listed, a, w => Region.ready .any ops listed = [] ∧ Q .normal a w
  | fuel + 1, listed, a, w =>
    (Region.ready .any ops listed = [] → Q .normal a w) ∧
    ∀ i ∈ Region.ready .any ops listed, wpOp P ops Q i (fun a' w' => (spoilt sp (listed.setIfInBounds i true) = true ∨ S0 w') ∧ wpAnyX P ops Q S0 sp fuel (listed.setIfInBounds i true) a' w') a w
theorem wpAny_of_X : ∀ (fuel : Nat) (listed : Array Bool) (a : Act) (w : World), wpAnyX P ops Q S0 sp fuel listed a w → wpAny P .any ops Q fuel listed a w
  | 0, _, _, _, h => h
  | fuel + 1, _, _, _, h => ⟨h.1, fun i hi => wpOp_mono (fun a' w' h' => wpAny_of_X fuel _ a' w' h'.2) (h.2 i hi)⟩
/-- Each of 'sp' waits for i. -/
def waits (ops : Array Oper) (sp : List Nat) (i : Nat) : Bool := sp.all fun s => match ops[s]? with
  | some o => o.after.any fun e => Region.binds .any e && e.on == i
  | none => false
theorem not_spoilt {i j : Nat} {listed : Array Bool} (hw : waits ops sp i = true) (hi : listed.getD i false = false) (hj : j ∈ Region.ready .any ops listed) (hs : spoilt sp listed = false) : spoilt sp (listed.setIfInBounds j true) = false := by
  unfold spoilt at *
  rw [List.any_eq_false] at *
  intro s hsm
  by_cases hsj : j = s
  · subst hsj
    exfalso
    have h1 := List.all_eq_true.1 hw j hsm
    obtain ⟨_, o, ho, hall⟩ := mem_ready.1 hj
    rw [ho] at h1
    obtain ⟨e, he, hb⟩ := Array.any_eq_true'.1 h1
    simp only [Bool.and_eq_true, beq_iff_eq] at hb
    have := hall e he hb.1
    rw [hb.2, hi] at this
    cases this
  · rw [getD_set_ne false hsj]; exact hs s hsm
theorem spoilt_ne {i : Nat} {listed : Array Bool} (hni : memN i sp = false) : spoilt sp (listed.setIfInBounds i true) = spoilt sp listed := by
  unfold spoilt
  have key : ∀ l : List Nat, memN i l = false → (l.any fun s => (listed.setIfInBounds i true).getD s false) = l.any fun s => listed.getD s false := by
    intro l
    induction l with
    | nil => intro _; rfl
    | cons s l ih =>
      intro h
      simp only [memN, Bool.or_eq_false_iff] at h
      have hne : i ≠ s := fun e => by subst e; simp at h
      rw [List.any_cons, List.any_cons, ih h.2, getD_set_ne false hne]
  exact key sp hni
theorem wpAnyX_first {i : Nat} {oi : Oper} {v : Value} (hi : ops[i]? = some oi) (hsel : ∀ (j : Nat) (o : Oper) cs b, ops[j]? = some o → o.op ≠ .select cs b)
    (hQ : ∀ c a w, Q (.panic c) (a.put oi.dst v) w → Q (.panic c) a w) (S1 : World → Prop)
    (hni : memN i sp = false) (hS1 : (∀ w, S1 w) ∨ (waits ops sp i = true ∧ ∀ w, S0 w → S1 w)) :
    ∀ (fuel : Nat) (listed : Array Bool) (a : Act) (w : World),
      (∀ j oj, ops[j]? = some oj → j ≠ i → listed.getD j true = false → (∀ e ∈ oj.after, Region.binds .any e = true → e.on ≠ i) → oi.apart ops oj = true) →
      i ∈ Region.ready .any ops listed → YieldsIf P ops S1 oi v a → (spoilt sp listed = false ∨ ∀ w, S1 w) → (spoilt sp listed = true ∨ S0 w) →
      wpAnyX P ops Q S0 sp fuel (listed.setIfInBounds i true) (a.put oi.dst v) w → wpAnyX P ops Q S0 sp (fuel + 1) listed a w := by
  have s1 : ∀ (listed : Array Bool) (w : World), (spoilt sp listed = false ∨ ∀ w, S1 w) → (spoilt sp listed = true ∨ S0 w) → S1 w := by
    intro listed w h1 h2
    rcases hS1 with h | ⟨_, h⟩
    · exact h w
    · rcases h1 with h1 | h1
      · rcases h2 with h2 | h2
        · rw [h1] at h2; cases h2
        · exact h w h2
      · exact h1 w
  intro fuel
  induction fuel with
  | zero =>
    intro listed a w _ hr hy h1 h2 H
    refine ⟨fun h => (by rw [h] at hr; cases hr), fun j hj => ?_⟩
    by_cases hji : j = i
    · subst hji; exact hy.wpOp hi (s1 listed w h1 h2) ⟨by rw [spoilt_ne hni]; exact h2, H⟩
    · have := ready_mono hj hji
      rw [H.1] at this
      cases this
  | succ fuel ih =>
    intro listed a w hfree hr hy hsp hS0 H
    refine ⟨fun h => (by rw [h] at hr; cases hr), fun j hj => ?_⟩
    by_cases hji : j = i
    · subst hji; exact hy.wpOp hi (s1 listed w hsp hS0) ⟨by rw [spoilt_ne hni]; exact hS0, H⟩
    · have h1 := H.2 j (ready_mono hj hji)
      obtain ⟨hjun, oj, hoj, hall⟩ := mem_ready.1 hj
      have hiun : listed.getD i true = false := (mem_ready.1 hr).1
      have hiun' : listed.getD i false = false := by
        rcases Nat.lt_or_ge i listed.size with h' | h'
        · simp [h'] at hiun ⊢; exact hiun
        · simp [Array.getElem?_eq_none h'] at hiun
      have hnot : ∀ e ∈ oj.after, Region.binds .any e = true → e.on ≠ i := fun e he hb heq => by
        have h1 := hall e he hb
        rw [heq, hiun'] at h1
        cases h1
      have h2 := wpOp_putIf (S := S1) hoj (hfree j oj hoj hji hjun hnot) (fun cs b => hsel i oi cs b hi) (fun cs b => hsel j oj cs b hoj) hQ hy h1
      have hfree' : ∀ k ok, ops[k]? = some ok → k ≠ i → (listed.setIfInBounds j true).getD k true = false →
          (∀ e ∈ ok.after, Region.binds .any e = true → e.on ≠ i) → oi.apart ops ok = true := fun k ok hk hki hun hno => by
        refine hfree k ok hk hki ?_ hno
        by_cases hjk : j = k
        · subst hjk; exact hjun
        · rw [getD_set_ne true hjk] at hun; exact hun
      refine wpOp_mono (fun a' w' h3 => ?_) h2
      obtain ⟨hy', hs', hk⟩ := h3
      have hcomm : (listed.setIfInBounds i true).setIfInBounds j true = (listed.setIfInBounds j true).setIfInBounds i true := Array.setIfInBounds_comm _ _ (Ne.symm hji)
      rw [hcomm] at hs' hk
      have hsp' : spoilt sp (listed.setIfInBounds j true) = false ∨ ∀ w, S1 w := by
        rcases hS1 with h | ⟨hw, _⟩
        · exact .inr h
        · rcases hsp with h | h
          · exact .inl (not_spoilt hw hiun' hj h)
          · exact .inr h
      rw [spoilt_ne hni] at hs'
      exact ⟨hs', ih (listed.setIfInBounds j true) a' w' hfree' (ready_mono hr (Ne.symm hji)) hy' hsp' hs' hk⟩
end
section
variable {S : Sx} {W : World} {M : List Nat} {N : Nat}
def KQ (W : World) (M : List Nat) (N : Nat) (wr : List Nat) (a0 : Act) (K : Fr → Hp → Prop) : Exit → Act → World → Prop := fun e a w => match e with
  | .normal => ∃ F H, K F H ∧ Agree N F a ∧ Sat W M H w ∧ Same wr a0 a
  | _ => False
/-- A drawn region, in its midst. -/
inductive SxAny (S : Sx) (W : World) (M : List Nat) (N : Nat) (ops : List Oper) (Hs : Hp) (sp : List Nat) (D : List (Nat × Bool)) (listed : List Bool) (F : Fr) (H : Hp) (K : Fr → Hp → Prop) : Prop
  | mk (h : ∀ a0 wr, (∀ o ∈ ops, ∀ t, o.dst = some t → t ∈ wr) → ∀ a w, Agree N F a → Sat W M H w → Same wr a0 a → (spoilt sp listed.toArray = true ∨ Sat W M Hs w) → wpAnyX S.P ops.toArray (KQ W M N wr a0 K) (Sat W M Hs) sp (unlisted listed.toArray) listed.toArray a w)
def allE (p : Edge → Bool) : List Edge → Bool
  | [] => true
  | e :: r => p e && allE p r
def anyE (p : Edge → Bool) : List Edge → Bool
  | [] => false
  | e :: r => p e || anyE p r
theorem allE_eq (p : Edge → Bool) (l : Array Edge) : allE p l.toList = l.all p := by
  rw [← Array.all_toList]
  induction l.toList with
  | nil => rfl
  | cons e r ih => simp [allE, ih]
theorem anyE_eq (p : Edge → Bool) (l : Array Edge) : anyE p l.toList = l.any p := by
  rw [← Array.any_toList]
  induction l.toList with
  | nil => rfl
  | cons e r ih => simp [anyE, ih]
def getL : List Bool → Nat → Bool → Bool
  | [], _, d => d
  | b :: _, 0, _ => b
  | _ :: r, n + 1, d => getL r n d
theorem getL_eq : ∀ (l : List Bool) (i : Nat) (d : Bool), getL l i d = l.toArray.getD i d
  | [], i, d => by simp [getL]
  | b :: r, 0, d => by simp [getL]
  | b :: r, i + 1, d => by
    have := getL_eq r i d
    simp only [getL, this]
    simp [Array.getD]
def bindsB (e : Edge) : Bool := match e.ground with
  | .textOnly _ => false
  | .gcOnly _ => false
  | _ => true
theorem bindsB_eq (e : Edge) : bindsB e = Region.binds .any e := by
  obtain ⟨o, g⟩ := e
  cases g <;> rfl
def upTo : Nat → Nat → List Nat
  | _, 0 => []
  | k, n + 1 => k :: upTo (k + 1) n
theorem upTo_eq : ∀ (n k : Nat), upTo k n = List.range' k n
  | 0, k => rfl
  | n + 1, k => by rw [upTo, upTo_eq n (k + 1), List.range'_succ]
def readyOne (ops : List Oper) (L : List Bool) (i : Nat) : Bool := !(getL L i true) && (match nthO ops i with
  | some o => allE (fun e => !bindsB e || getL L e.on false) o.after.toList
  | none => false)
def filt (p : Nat → Bool) : List Nat → List Nat
  | [] => []
  | i :: r => bif p i then i :: filt p r else filt p r
theorem filt_eq (p : Nat → Bool) (l : List Nat) : filt p l = l.filter p := by
  induction l with
  | nil => rfl
  | cons i r ih => cases h : p i <;> simp [filt, h, ih]
def readyLs (ops : List Oper) (L : List Bool) : List Nat := filt (readyOne ops L) (upTo 0 ops.length)
theorem readyOne_eq (ops : List Oper) (L : List Bool) (i : Nat) : readyOne ops L i = (!L.toArray.getD i true && ((ops.toArray[i]?).map (·.after.all fun e => !Region.binds .any e || L.toArray.getD e.on false)).getD false) := by
  unfold readyOne
  rw [getL_eq, nthO_eq, List.getElem?_toArray]
  congr 1
  cases ops[i]? with
  | none => rfl
  | some o =>
    simp only [Option.map_some, Option.getD_some, allE_eq]
    congr 1
    funext e
    rw [bindsB_eq, getL_eq]
theorem readyLs_eq (ops : List Oper) (L : List Bool) : readyLs ops L = Region.ready .any ops.toArray L.toArray := by
  unfold readyLs Region.ready
  rw [filt_eq, upTo_eq, List.range_eq_range', List.size_toArray]
  congr 1
  funext i
  exact readyOne_eq ops L i
def readyB (ops : List Oper) (listed : List Bool) (i : Nat) : Bool := readyOne ops listed i
theorem readyB_mem {ops : List Oper} {L : List Bool} {i : Nat} (h : readyB ops L i = true) : i ∈ Region.ready .any ops.toArray L.toArray := by
  unfold readyB at h
  rw [readyOne_eq] at h
  unfold Region.ready
  rw [List.mem_filter, List.mem_range]
  refine ⟨?_, h⟩
  rw [List.size_toArray]
  rcases Nat.lt_or_ge i ops.length with hi | hi
  · exact hi
  · simp [hi] at h
def tmpsOf : List Operand → List Nat
  | [] => []
  | .tmp t :: r => t :: tmpsOf r
  | _ :: r => tmpsOf r
theorem tmpsOf_eq (l : List Operand) : tmpsOf l = l.filterMap fun | .tmp t => some t | _ => none := by
  induction l with
  | nil => rfl
  | cons x r ih => cases x <;> simp [tmpsOf, ih]
def looksL (ops : List Oper) (o : Oper) : List Nat := tmpsOf o.op.operands.toList ++ (match o.guard with
  | some (g, _) => match gdst ops g with | some d => [d] | none => []
  | none => [])
theorem looksL_eq (ops : List Oper) (o : Oper) : looksL ops o = o.looksAt ops.toArray := by
  unfold looksL Oper.looksAt
  rw [tmpsOf_eq]
  congr 1
  cases o.guard with
  | none => rfl
  | some gw =>
    obtain ⟨g, want⟩ := gw
    simp only [gdst, nthO_eq, List.getElem?_toArray]
    cases ops[g]? with
    | none => rfl
    | some x => simp only [Option.bind_some]; cases x.dst <;> rfl
theorem memN_contains (t : Nat) (l : List Nat) : memN t l = l.contains t := by
  induction l with
  | nil => rfl
  | cons s r ih =>
    simp only [memN, List.contains_cons, ih]
    congr 1
    rw [Bool.eq_iff_iff]
    simp only [beq_iff_eq]
    constructor
    · intro h; exact (Nat.eq_of_beq_eq_true h).symm
    · intro h; rw [h]; simp
def eqO : Option Nat → Option Nat → Bool
  | some a, some b => Nat.beq a b
  | none, none => true
  | _, _ => false
def apartL (ops : List Oper) (x y : Oper) : Bool :=
  (match x.dst with
   | some d => !(memN d (looksL ops y)) && !(eqO y.dst (some d))
   | none => true) &&
  (match y.dst with
   | some d => !(memN d (looksL ops x))
   | none => true)
theorem eqO_bne (a : Option Nat) (d : Nat) : (!(eqO a (some d))) = (a != some d) := by
  cases a with
  | none => rfl
  | some a =>
    simp only [eqO, bne]
    congr 1
    rw [Bool.eq_iff_iff]
    simp only [beq_iff_eq, Option.some.injEq]
    exact ⟨Nat.eq_of_beq_eq_true, fun h => by rw [h]; simp⟩
theorem apartL_eq (ops : List Oper) (x y : Oper) : apartL ops x y = x.apart ops.toArray y := by
  unfold apartL Oper.apart
  cases x.dst <;> cases y.dst <;> simp only [looksL_eq, memN_contains, eqO_bne]
def allN (p : Nat → Bool) : List Nat → Bool
  | [] => true
  | i :: r => p i && allN p r
theorem allN_eq (p : Nat → Bool) (l : List Nat) : allN p l = l.all p := by
  induction l with
  | nil => rfl
  | cons i r ih => simp [allN, ih]
def freeOne (ops : List Oper) (L : List Bool) (i : Nat) : Bool := match nthO ops i with
  | none => false
  | some oi => allN (fun j => Nat.beq j i || getL L j true || (match nthO ops j with
      | some oj => anyE (fun e => bindsB e && Nat.beq e.on i) oj.after.toList || apartL ops oi oj
      | none => true)) (upTo 0 ops.length)
theorem natbeq_eq (a b : Nat) : Nat.beq a b = (a == b) := by
  rw [Bool.eq_iff_iff]
  simp only [beq_iff_eq]
  exact ⟨Nat.eq_of_beq_eq_true, fun h => by rw [h]; simp⟩
theorem freeOne_eq (ops : List Oper) (L : List Bool) (i : Nat) : freeOne ops L i = Region.free .any ops.toArray L.toArray i := by
  unfold freeOne Region.free
  rw [nthO_eq, List.getElem?_toArray]
  cases ops[i]? with
  | none => rfl
  | some oi =>
    simp only [allN_eq, upTo_eq, List.range_eq_range', List.size_toArray]
    congr 1
    funext j
    rw [getL_eq, nthO_eq, List.getElem?_toArray, natbeq_eq]
    congr 1
    cases ops[j]? with
    | none => rfl
    | some oj =>
      simp only [anyE_eq, apartL_eq]
      congr 2
      funext e
      rw [bindsB_eq, natbeq_eq]
def freeB (ops : List Oper) (listed : List Bool) (i : Nat) : Bool := freeOne ops listed i && !(getL listed i true)
theorem freeB_get {ops : List Oper} {L : List Bool} {i : Nat} (h : freeB ops L i = true) : Region.free .any ops.toArray L.toArray i = true ∧ L.toArray.getD i true = false := by
  unfold freeB at h
  rw [Bool.and_eq_true, Bool.not_eq_true', freeOne_eq, getL_eq] at h
  exact h
def noSel : List Oper → Bool
  | [] => true
  | o :: r => (match o.op with | .select _ _ => false | _ => true) && noSel r
theorem noSel_eq (ops : List Oper) : noSel ops = Region.noSelect ops.toArray := by
  unfold Region.noSelect
  rw [← Array.all_toList]
  simp only
  induction ops with
  | nil => rfl
  | cons o r ih => simp only [noSel, List.all_cons, ih]; rfl
def waitsL (ops : List Oper) (sp : List Nat) (i : Nat) : Bool := allN (fun s => match nthO ops s with
  | some o => anyE (fun e => bindsB e && Nat.beq e.on i) o.after.toList
  | none => false) sp
theorem waitsL_eq (ops : List Oper) (sp : List Nat) (i : Nat) : waitsL ops sp i = waits ops.toArray sp i := by
  unfold waitsL waits
  rw [allN_eq]
  congr 1
  funext s
  rw [nthO_eq, List.getElem?_toArray]
  cases ops[s]? with
  | none => rfl
  | some o =>
    simp only [anyE_eq]
    congr 1
    funext e
    rw [bindsB_eq, natbeq_eq]
def spoiltL (sp : List Nat) (L : List Bool) : Bool := match sp with
  | [] => false
  | s :: r => getL L s false || spoiltL r L
theorem spoiltL_eq : ∀ (sp : List Nat) (L : List Bool), spoiltL sp L = spoilt sp L.toArray
  | [], L => rfl
  | s :: r, L => by
    have := spoiltL_eq r L
    unfold spoilt at *
    simp only [spoiltL, getL_eq, this, List.any_cons]
def falses : List Oper → List Bool
  | [] => []
  | _ :: r => false :: falses r
theorem falses_eq (l : List Oper) : falses l = List.replicate l.length false := by
  induction l with
  | nil => rfl
  | cons o r ih => simp [falses, ih, List.replicate_succ]
def setB : List Bool → Nat → List Bool
  | [], _ => []
  | _ :: r, 0 => true :: r
  | b :: r, n + 1 => b :: setB r n
theorem setB_eq : ∀ (l : List Bool) (i : Nat), setB l i = l.set i true
  | [], i => rfl
  | b :: r, 0 => rfl
  | b :: r, i + 1 => by simp [setB, setB_eq r i]
theorem set_list (l : List Bool) (i : Nat) : (setB l i).toArray = l.toArray.setIfInBounds i true := by rw [setB_eq]; simp
section
variable {ops : List Oper} {Hs H : Hp} {sp : List Nat} {listed : List Bool} {F : Fr} {K : Fr → Hp → Prop} {D : List (Nat × Bool)} {i : Nat} {o : Oper} {v : Value}
theorem yields_run {o : Oper} {v : Value} {a : Act} {w : World} (h : pureOp S F o.op = some v) (ha : Agree N F a) : (execOp a.eval o).run S.P w = .ok (.value v) w := by
  obtain ⟨dst, op, ty, pos, after, guard⟩ := o
  dsimp only at h
  cases op
  case move x => simp only [pureOp] at h; simp [execOp, ev_eval ha h]
  case assign x => simp only [pureOp] at h; simp [execOp, ev_eval ha h]
  case pick c x y =>
    simp only [pureOp] at h
    split at h
    · rename_i hc; simp [execOp, ev_eval ha hc, ev_eval ha h, asBool]
    · rename_i hc; simp [execOp, ev_eval ha hc, ev_eval ha h, asBool]
    · cases h
  case binOp b t x y yt =>
    have hh : sxBin S b t x y (a.eval x) (a.eval y) fun r => r = v := by
      simp only [pureOp] at h
      split at h
      · rename_i k m k' n hx hy
        rw [ev_eval ha hx, ev_eval ha hy]
        simp only [sxBin]
        cases hs : isShift b with
        | true => rw [hs] at h; cases h
        | false =>
          rw [hs] at h
          simp only [cond_false] at h ⊢
          cases hk : sameK k k' with
          | false => rw [hk] at h; cases h
          | true =>
            rw [hk] at h
            simp only [cond_true] at h ⊢
            cases b <;> simp only [bitV, cmpV, Option.some.injEq, reduceCtorEq] at h <;> exact h
      · rename_i m n hx hy
        rw [ev_eval ha hx, ev_eval ha hy]
        simp only [sxBin]
        cases b <;> simp only [strV, Option.some.injEq, reduceCtorEq] at h <;> exact h
      · cases h
    obtain ⟨r, rfl, hr⟩ := sxBin_run hh
    simp only [execOp]
    rw [Sem.run_bind, hr w]
    rfl
  case unOp b t x =>
    cases b <;> simp only [pureOp, reduceCtorEq] at h
    split at h
    · rename_i b hb; rw [← Option.some.inj h]; simp [execOp, ev_eval ha hb, Op.unary]
    · cases h
  case fieldAddr t x f =>
    simp only [pureOp] at h
    split at h
    · rename_i fs g off hd hx
      split at h
      · rename_i d n hp
        cases hn : Nat.blt 0 n with
        | false => rw [hn] at h; cases h
        | true =>
          rw [hn] at h
          rw [← Option.some.inj h]
          have hn' : n ≠ 0 := by have : 0 < n := by simpa using hn
                                 omega
          obtain ⟨l, hl1, hl2⟩ := Sx.ustruct hd
          subst hl2
          unfold placeF at hp
          split at hp
          · rename_i fo ft hf
            rw [nthF_eq, List.getElem?_map, Array.getElem?_toList] at hf
            obtain ⟨y, hy1, hy2⟩ := Option.map_eq_some_iff.1 hf
            simp only [Prod.mk.injEq] at hy2
            obtain ⟨rfl, rfl⟩ := hy2
            split at hp
            · rename_i k hk
              simp only [Option.some.injEq, Prod.mk.injEq] at hp
              obtain ⟨rfl, rfl⟩ := hp
              simp [execOp, Instr.fieldAt, run_underlying hl1, hy1, ev_eval ha hx, Instr.sureAddr, fieldPlace, run_size hk, hn', Addr.add_lit]
            · cases hp
          · cases hp
      · cases h
    · cases h
  case nilCheck x =>
    simp only [pureOp] at h
    split at h
    · rename_i ad hx; rw [← Option.some.inj h]; simp [execOp, ev_eval ha hx]
    · rename_i f first captured hx; rw [← Option.some.inj h]; simp [execOp, ev_eval ha hx]
    · cases h
  case extract x i =>
    simp only [pureOp] at h
    split at h
    · rename_i vs hv
      rw [nthV_eq, Array.getElem?_toList] at h
      simp [execOp, ev_eval ha hv, Instr.extract, h]
    · cases h
  case makeFunc fn first captured =>
    simp only [pureOp] at h
    split at h
    · rename_i u v hu hv
      have h1 : first.map a.eval = u.toArray := by apply Array.ext'; rw [Array.toList_map, evs_eval ha hu]
      have h2 : captured.map a.eval = v.toArray := by apply Array.ext'; rw [Array.toList_map, evs_eval ha hv]
      rw [← Option.some.inj h]
      simp [execOp, Instr.makeFunc, h1, h2]
    · cases h
  case call c =>
    obtain ⟨callee, args, tys⟩ := c
    simp only [pureOp] at h
    split at h
    · rename_i t r v ht hvs
      have hargs : args.map a.eval = #[v] := by apply Array.ext'; rw [Array.toList_map, evs_eval ha hvs]
      have htys : tys = (t :: r).toArray := by apply Array.ext'; rw [ht]
      split at h
      · rename_i d hd
        unfold lenV at h
        split at h
        · rename_i s; rw [← Option.some.inj h]; simp [execOp, resolve, invoke, hargs, htys, builtin, Builtin.len_, run_str hd, goInt]
        · rename_i e ao n cap; rw [← Option.some.inj h]; simp [execOp, resolve, invoke, hargs, htys, builtin, Builtin.len_, run_sl hd, goInt]
        · rename_i n e; rw [← Option.some.inj h]; simp [execOp, resolve, invoke, hargs, htys, builtin, Builtin.len_, run_arr hd, goInt]
        · cases h
      · cases h
    · cases h
  case convert src dst x =>
    simp only [pureOp] at h
    split at h
    · rename_i s h1 h2 h3; rw [← Option.some.inj h]; simp [execOp, ev_eval ha h3, convert, run_str h1, run_str h2]
    · cases h
  all_goals (simp only [pureOp, reduceCtorEq] at h)
theorem wanted_of {all : List Oper} {o : Oper} {D : List (Nat × Bool)} {a : Act} (ha : Agree N F a) :
    (status N all o D F = 2 → Region.wanted o (yielded all.toArray a.tmps) = true) ∧ (status N all o D F = 1 → Region.wanted o (yielded all.toArray a.tmps) = false) := by
  unfold status
  cases hd : dstOk N o.dst with
  | false => exact ⟨fun h => (by cases h), fun h => (by cases h)⟩
  | true =>
    simp only [cond_true]
    split
    · rename_i hg; exact ⟨fun _ => by simp [Region.wanted, hg], fun h => (by cases h)⟩
    · rename_i j want hg
      split
      · rename_i d hgd
        split
        · rename_i t hl
          have hy := yielded_of ha hgd hl
          split
          · rename_i b hD
            cases h1 : sameB t b with
            | false => exact ⟨fun h => (by cases h), fun h => (by cases h)⟩
            | true =>
              obtain rfl := sameB_eq h1
              simp only [cond_true]
              cases h2 : sameB t want with
              | true => obtain rfl := sameB_eq h2; exact ⟨fun _ => by simp [Region.wanted, hg, hy], fun h => (by cases h)⟩
              | false =>
                refine ⟨fun h => (by cases h), fun _ => ?_⟩
                cases t <;> cases want <;> first | (simp [Region.wanted, hg, hy]; done) | cases h2
          · exact ⟨fun h => (by cases h), fun h => (by cases h)⟩
        · rename_i vs hl
          exact ⟨fun h => (by cases h), fun _ => by simp [Region.wanted, hg, yielded_no ha hgd hl]⟩
        · exact ⟨fun h => (by cases h), fun h => (by cases h)⟩
      · exact ⟨fun h => (by cases h), fun h => (by cases h)⟩
theorem status_dst {all : List Oper} {o : Oper} {D : List (Nat × Bool)} {n : Nat} (h : status N all o D F = n + 1) : dstOk N o.dst = true := by
  unfold status at h
  cases hd : dstOk N o.dst with
  | false => rw [hd] at h; cases h
  | true => rfl
theorem KQ_panic {wr : List Nat} {a0 : Act} {d : Option Nat} {u : Value} : ∀ c a w, KQ W M N wr a0 K (.panic c) (a.put d u) w → KQ W M N wr a0 K (.panic c) a w := fun _ _ _ h => h
/-- An operation is taken first that asks nothing of memory. -/
theorem any_take (hi : nthO ops i = some o) (hns : noSel ops = true) (hf : freeB ops listed i = true) (hr : readyB ops listed i = true) (hni : memN i sp = false)
    (hy : ∀ a, Agree N F a → Yields S.P ops.toArray o v a) (hd : dstOk N o.dst = true) (h : SxAny S W M N ops Hs sp D (setB listed i) (upd o.dst v F) H K) : SxAny S W M N ops Hs sp D listed F H K := by
  refine ⟨fun a0 wr hwr a w ha hs hsm hsp => ?_⟩
  have ho : ops.toArray[i]? = some o := by rw [List.getElem?_toArray, ← nthO_eq]; exact hi
  replace hf := freeB_get hf
  have hun : listed.toArray.getD i true = false := hf.2
  have h1 := unlisted_set hun
  rw [← h1]
  have hm : o ∈ ops := by rw [nthO_eq] at hi; exact List.mem_of_getElem? hi
  refine wpAnyX_first ho (Region.noSelect_spec (by rw [← noSel_eq]; exact hns)) KQ_panic (fun _ => True) hni (.inl fun _ => trivial) _ _ a w (Region.free_spec ho hf.1) (readyB_mem hr) (hy a ha).yieldsIf (.inr fun _ => trivial) hsp ?_
  cases h with
  | mk h =>
    rw [← set_list]
    exact h a0 wr hwr _ w (ha.put hd v) hs (hsm.put (hwr o hm) v) (by rw [set_list, spoilt_ne hni]; exact hsp)
theorem any_pure (hi : nthO ops i = some o) (hns : noSel ops = true) (hf : freeB ops listed i = true) (hr : readyB ops listed i = true) (hni : memN i sp = false)
    (hst : status N ops o D F = 2) (hv : pureOp S F o.op = some v) (h : SxAny S W M N ops Hs sp D (setB listed i) (upd o.dst v F) H K) : SxAny S W M N ops Hs sp D listed F H K :=
  any_take hi hns hf hr hni (fun a ha => .inl ⟨(wanted_of ha).1 hst, fun w => yields_run hv ha⟩) (status_dst hst) h
theorem any_skip (hi : nthO ops i = some o) (hns : noSel ops = true) (hf : freeB ops listed i = true) (hr : readyB ops listed i = true) (hni : memN i sp = false)
    (hst : status N ops o D F = 1) (h : SxAny S W M N ops Hs sp D (setB listed i) (upd o.dst undef F) H K) : SxAny S W M N ops Hs sp D listed F H K :=
  any_take hi hns hf hr hni (fun a ha => .inr ⟨(wanted_of ha).2 hst, rfl⟩) (status_dst hst) h
/-- Operations that make and write nothing. -/
def stillOp : Op → Bool
  | .move _ | .assign _ | .pick _ _ _ | .binOp _ _ _ _ _ | .unOp _ _ _ | .build _ _ | .load _ _ | .nilCheck _ | .fieldAddr _ _ _ | .indexAddr _ _ _ | .index _ _ _ | .field _ _ _ | .extract _ _ | .makeFunc _ _ _ | .slice _ _ _ _ none => true
  | .call c => match c.callee with
    | .builtin .len | .builtin .min | .builtin .max | .builtin .real | .builtin .imag | .builtin .complex => true
    | _ => false
  | _ => false
theorem SxStr.still {P : Program} {H : Hp} {ao : Option Addr} {n cap : Nat} {A : List UInt8 → Prop} (h : SxStr H ao n A) (src dst e : TypeId) (h1 : P.underlying src = some (.slice e)) (h2 : P.underlying e = some (.int .u8)) (h3 : P.underlying dst = some .string) :
    ∃ l, A l ∧ ∀ w, Sat W M H w → (convert src dst (.slice ao n cap)).run P w = .ok (.string ⟨l.toArray⟩) w := by
  cases h with
  | rd p hp l hn hl h =>
    refine ⟨l, h, fun w hs => ?_⟩
    obtain ⟨l', e', hr⟩ := (SxStr.rd (A := fun x => x = l) p hp l hn hl rfl).get (P := P) (cap := cap) hs src dst e h1 h2 h3
    subst e'; exact hr
  | blk p ha hp l hn hl h =>
    refine ⟨l, h, fun w hs => ?_⟩
    obtain ⟨l', e', hr⟩ := (SxStr.blk (A := fun x => x = l) p ha hp l hn hl rfl).get (P := P) (cap := cap) hs src dst e h1 h2 h3
    subst e'; exact hr
  | row p hp l hn hl h =>
    refine ⟨l, h, fun w hs => ?_⟩
    obtain ⟨l', e', hr⟩ := (SxStr.row (A := fun x => x = l) p hp l hn hl rfl).get (P := P) (cap := cap) hs src dst e h1 h2 h3
    subst e'; exact hr
def stillConv (S : Sx) (o : Op) : Bool := match o with
  | .convert src dst _ => match S.desc src, S.desc dst with
    | some .string, some (.slice _) => false
    | _, _ => true
  | o => stillOp o
theorem still_run {o : Oper} {A : Value → Hp → Prop} (hst : stillConv S o.op = true) (h : sxOp S W M N o F H A) {w0 : World} (hs0 : Sat W M H w0) {a0 : Act} (ha0 : Agree N F a0) :
    ∃ v, A v H ∧ ∀ a w, Agree N F a → Sat W M H w → (execOp a.eval o).run S.P w = .ok (.value v) w := by
  obtain ⟨dst, op, ty, pos, after, guard⟩ := o
  cases op <;> simp only [stillConv, stillOp, Bool.false_eq_true] at hst
  case move x =>
    simp only [sxOp] at h
    split at h
    · rename_i v hv; exact ⟨v, h, fun a w ha _ => by simp [execOp, ev_eval ha hv]⟩
    · exact h.elim
  case assign x =>
    simp only [sxOp] at h
    split at h
    · rename_i v hv; exact ⟨v, h, fun a w ha _ => by simp [execOp, ev_eval ha hv]⟩
    · exact h.elim
  case pick c x y =>
    simp only [sxOp] at h
    split at h
    · rename_i t ht
      cases h with
      | mk h1 h2 =>
        cases t with
        | true =>
          have h := h1 rfl
          split at h
          · rename_i v hv; exact ⟨v, h, fun a w ha _ => by simp [execOp, ev_eval ha ht, ev_eval ha hv, asBool]⟩
          · exact h.elim
        | false =>
          have h := h2 rfl
          split at h
          · rename_i v hv; exact ⟨v, h, fun a w ha _ => by simp [execOp, ev_eval ha ht, ev_eval ha hv, asBool]⟩
          · exact h.elim
    · exact h.elim
  case binOp b t x y yt =>
    simp only [sxOp] at h
    split at h
    · rename_i u v hu hv
      obtain ⟨r, hr, hrun⟩ := sxBin_run h
      exact ⟨r, hr, fun a w ha _ => by simp only [execOp, ev_eval ha hu, ev_eval ha hv]; rw [Sem.run_bind, hrun w]; rfl⟩
    · exact h.elim
  case unOp b t x =>
    simp only [sxOp] at h
    split at h
    · rename_i b hb; exact ⟨_, h, fun a w ha _ => by simp [execOp, ev_eval ha hb, Op.unary]⟩
    · rename_i v hv
      cases h with | mk r hr h => exact ⟨r, h, fun a w ha _ => by simp [execOp, ev_eval ha hv, hr w]⟩
    · exact h.elim
  case convert src dst' x =>
    simp only [sxOp] at h
    split at h
    · rename_i v hv
      unfold sxConv at h
      split at h
      · rename_i k k' n hd1 hd2
        cases h with | mk h => exact ⟨_, h, fun a w ha _ => by simp [execOp, ev_eval ha hv, convert, run_int hd1, run_int hd2, Conv.intToInt]⟩
      · rename_i s hd1 hd2; exact ⟨_, h, fun a w ha _ => by simp [execOp, ev_eval ha hv, convert, run_str hd1, run_str hd2]⟩
      · rename_i e s hd1 hd2; rw [hd1, hd2] at hst; cases hst
      · rename_i e ao n cap hd1 hd2
        split at h
        · rename_i hd3
          obtain ⟨l, hl, hr⟩ := SxStr.still (W := W) (M := M) (cap := cap) h src dst' e (Sx.usl hd1) (Sx.uint hd3) (Sx.ustr hd2)
          exact ⟨_, hl, fun a w ha hs => by simp [execOp, ev_eval ha hv, hr w hs]⟩
        · exact h.elim
      · cases h with | mk r hr h => exact ⟨r, h, fun a w ha _ => by simp [execOp, ev_eval ha hv, hr w]⟩
    · exact h.elim
  case build t ps =>
    have h' : sxOp S W M N ⟨dst, .build t ps, ty, pos, after, guard⟩ F H fun v H' => H' = H ∧ A v H := by
      simp only [sxOp] at h ⊢
      split at h
      · rename_i d0 n0 b0 z0 vs hi hvs
        split at h
        · rename_i fs
          cases hall : fs.all (fun f => (S.sz f.2).isSome) with
          | false => rw [hall] at h; exact h.elim
          | true =>
            rw [hall] at h
            cases h with | mk h1 hc h2 => exact SxFill.mk h1 hc ⟨trivial, h2⟩
        · rename_i n e
          split at h
          · cases h with | mk h1 hc h2 => exact SxFill.mk h1 hc ⟨trivial, h2⟩
          · exact h.elim
        · exact h.elim
      · exact h.elim
    simp only [sxOp] at h'
    split at h'
    · rename_i d0 n0 b0 z0 vs hi hvs
      have ev0 := fun (a : Act) (ha : Agree N F a) => evParts_eval ha hvs
      have hps := fun (a : Act) (ha : Agree N F a) => (show (ps.map fun (x : Nat × Operand) => (x.1, a.eval x.2)).toList.map (fun p => (p.1, p.2.cells.toList)) = vs by rw [← ev0 a ha]; simp)
      split at h'
      · rename_i fs
        obtain ⟨l, hl1, hl2⟩ := Sx.ustruct (S := S) (t := t) (fs := fs) (Sx.descOf hi)
        subst hl2
        cases hall : (l.toList.map fun (f : Field) => (f.offset, f.type)).all (fun f => (S.sz f.2).isSome) with
        | false => rw [hall] at h'; exact h'.elim
        | true =>
          rw [hall] at h'
          simp only [cond_true] at h'
          have hpl : ∀ j x, placeF S (l.toList.map fun (f : Field) => (f.offset, f.type)) j = some x → Option.map (fun f => (f.offset, (S.sz f.type).getD 0)) l[j]? = some x := by
            intro j x hx
            unfold placeF at hx
            split at hx
            · rename_i fo ft hf
              rw [nthF_eq, List.getElem?_map, Array.getElem?_toList] at hf
              obtain ⟨y, hy1, hy2⟩ := Option.map_eq_some_iff.1 hf
              simp only [Prod.mk.injEq] at hy2
              obtain ⟨rfl, rfl⟩ := hy2
              split at hx
              · rename_i n hn
                rw [← Option.some.inj hx, hy1]
                simp [hn]
              · cases hx
            · cases hx
          cases h' with
          | mk h1 hc h2 =>
            rename_i cs'
            refine ⟨_, h2.2, fun a w ha _ => ?_⟩
            have hf := (fill_get (place' := fun j => Option.map (fun f => (f.offset, (S.sz f.type).getD 0)) l[j]?) hpl (ps.map fun (x : Nat × Operand) => (x.1, a.eval x.2)).toList _ cs' (by rw [hps a ha]; exact h1) (by rw [hps a ha]; exact hc)).2
            simp only [Array.toArray_toList, Array.toList_map] at hf
            simp [execOp, Instr.build, run_zero hi, run_underlying hl1, Array.mapM_eq_mapM_toList, run_places w _ _ (places_of l.toList hall), hf]
      · rename_i n e
        split at h'
        · rename_i k hk
          cases h' with
          | mk h1 hc h2 =>
            rename_i cs'
            refine ⟨_, h2.2, fun a w ha _ => ?_⟩
            have hf := (fill_get (place' := fun j => some (j * k, k)) (fun _ _ h => h) (ps.map fun (x : Nat × Operand) => (x.1, a.eval x.2)).toList _ cs' (by rw [hps a ha]; exact h1) (by rw [hps a ha]; exact hc)).2
            simp only [Array.toArray_toList, Array.toList_map] at hf
            have hu := Sx.uarr (S := S) (t := t) (n := n) (e := e) (Sx.descOf hi)
            simp [execOp, Instr.build, run_zero hi, run_underlying hu, run_size hk, hf]
        · exact h'.elim
      · exact h'.elim
    · exact h'.elim
  case load t x =>
    simp only [sxOp] at h
    split at h
    · rename_i d0 n0 b0 z0 g off hti hx
      cases hag : isAggD d0 with
      | true =>
        rw [hag] at h
        simp only [cond_true] at h
        have fin : ∀ (vs : List Value), (∀ w, Sat W M H w → vs.length = n0 ∧ ∀ j v, vs[j]? = some v → w.cell? ⟨g, off + j, none⟩ = some v) → ∀ a w, Agree N F a → Sat W M H w → (execOp a.eval ⟨dst, .load t x, ty, pos, after, guard⟩).run S.P w = .ok (.value (.agg vs.toArray)) w := by
          intro vs hc a w ha hs
          have := run_loadVar_many (P := S.P) (by rw [run_agg hti w, hag]) (run_size' hti w) (hc w hs).1 (hc w hs).2
          simp [execOp, Instr.loadAt, Instr.sureAddr, ev_eval ha hx, this]
        cases h with
        | blk p hp hl hv hA => exact ⟨_, hA, fin _ fun w hs => by obtain ⟨us, hu, h1, h2⟩ := (SxLdN.blk (A := fun us => us = _) p hp hl hv rfl).get hs; subst hu; exact ⟨h1, h2⟩⟩
        | rd p hp ha' hj hl hv hA => exact ⟨_, hA, fin _ fun w hs => by obtain ⟨us, hu, h1, h2⟩ := (SxLdN.rd (A := fun us => us = _) p hp ha' hj hl hv rfl).get hs; subst hu; exact ⟨h1, h2⟩⟩
        | row p hp ha' hj hl hv hA => exact ⟨_, hA, fin _ fun w hs => by obtain ⟨us, hu, h1, h2⟩ := (SxLdN.row (A := fun us => us = _) p hp ha' hj hl hv rfl).get hs; subst hu; exact ⟨h1, h2⟩⟩
      | false =>
        rw [hag] at h
        simp only [cond_false] at h
        have fin : ∀ (v : Value), (∀ w, Sat W M H w → w.cell? ⟨g, off, none⟩ = some v) → ∀ a w, Agree N F a → Sat W M H w → (execOp a.eval ⟨dst, .load t x, ty, pos, after, guard⟩).run S.P w = .ok (.value v) w := by
          intro v hc a w ha hs
          have := run_loadVar_one (P := S.P) (by rw [run_agg hti w, hag]) (hc w hs)
          simp [execOp, Instr.loadAt, Instr.sureAddr, ev_eval ha hx, this]
        cases h with
        | blk p hp hv hA => exact ⟨_, hA, fin _ fun w hs => by obtain ⟨us, hu, h1⟩ := (SxLd.blk (A := fun us => us = _) p hp hv rfl).get hs; subst hu; exact h1⟩
        | rd p hp ha' hj hv hA => exact ⟨_, hA, fin _ fun w hs => by obtain ⟨us, hu, h1⟩ := (SxLd.rd (A := fun us => us = _) p hp ha' hj hv rfl).get hs; subst hu; exact h1⟩
        | row p hp ha' hj hv hA => exact ⟨_, hA, fin _ fun w hs => by obtain ⟨us, hu, h1⟩ := (SxLd.row (A := fun us => us = _) p hp ha' hj hv rfl).get hs; subst hu; exact h1⟩
    · exact h.elim
  case nilCheck x =>
    simp only [sxOp] at h
    split at h
    · rename_i ad hx; exact ⟨_, h, fun a w ha _ => by simp [execOp, ev_eval ha hx]⟩
    · rename_i f first captured hx; exact ⟨_, h, fun a w ha _ => by simp [execOp, ev_eval ha hx]⟩
    · exact h.elim
  case fieldAddr t x f =>
    have hp : ∃ v, pureOp S F (.fieldAddr t x f) = some v ∧ A v H := by
      simp only [sxOp] at h
      split at h
      · rename_i fs g off hd hx
        split at h
        · rename_i d n hp
          cases hn : Nat.blt 0 n with
          | false => rw [hn] at h; exact h.elim
          | true => rw [hn] at h; exact ⟨_, by simp only [pureOp, hd, hx, hp, hn]; rfl, h⟩
        · exact h.elim
      · exact h.elim
    obtain ⟨v, hv, hA⟩ := hp
    exact ⟨v, hA, fun a w ha _ => yields_run (o := ⟨dst, .fieldAddr t x f, ty, pos, after, guard⟩) hv ha⟩
  case indexAddr t x ix =>
    simp only [sxOp] at h
    split at h
    · rename_i e ao n cap kk i hd hx hix
      split at h
      · rename_i k hk
        have fin : ∀ (j g off : Nat), i = j → j < n → ao = some ⟨g, off, none⟩ → ∀ a w, Agree N F a → Sat W M H w → (execOp a.eval ⟨dst, .indexAddr t x ix, ty, pos, after, guard⟩).run S.P w = .ok (.value (.pointer (some ⟨g, off + j * k, none⟩))) w := by
          rintro j g off rfl hj rfl a w ha _
          simp [execOp, Instr.indexAt, asIntOf, run_sl hd, ev_eval ha hx, ev_eval ha hix, hj, run_size hk, Addr.add_lit]
        cases h with
        | rd p cs hp j h1 hj hc h =>
          obtain ⟨g, off, he, _⟩ := (hs0.rd p hp).2 (by omega)
          exact ⟨_, h g off he, fin j g off h1 hj he⟩
        | row p cap' e' cs hp j h1 hj h =>
          rcases (hs0.row p hp).2 with ⟨_, h0⟩ | ⟨g, c, cur, he, _⟩
          · omega
          · simp only [Value.slice.injEq] at he
            exact ⟨_, h g he.1, fin j g 0 h1 hj he.1⟩
        | ptr g off he j h1 hj h => exact ⟨_, h, fin j g off h1 hj he⟩
      · exact h.elim
    · rename_i n e g off kk i hd hx hix
      split at h
      · rename_i k hk
        cases h with
        | mk j h1 hj h =>
          subst h1
          exact ⟨_, h, fun a w ha _ => by simp [execOp, Instr.indexAt, asIntOf, run_arr hd, ev_eval ha hx, ev_eval ha hix, hj, run_size hk, Instr.sureAddr, Addr.add_lit]⟩
      · exact h.elim
    · exact h.elim
  case index t x ix =>
    simp only [sxOp] at h
    split at h
    · rename_i s kk i hd hx hix
      cases h with
      | mk j h1 hj h =>
        subst h1
        refine ⟨_, h, fun a w ha _ => ?_⟩
        have hsz : j < s.data.toList.length := by simpa using hj
        have hget : s[j]? = some s[j] := by simp [hj]
        have hb : s.data.toList.getD j 0 = s[j] := by
          have hsz2 : j < s.data.size := by simpa using hsz
          simp only [List.getD, Array.getElem?_toList]
          rw [Array.getElem?_eq_getElem hsz2]; rfl
        simp only [hb]
        simp [execOp, Instr.index, asIntOf, run_str hd, ev_eval ha hx, ev_eval ha hix, hget, hj]
    · rename_i n e cs kk i hd hx hix
      split at h
      · rename_i d0 n0 b0 z0 hu
        cases h with
        | mk j h1 hj h =>
          subst h1
          cases hag : isAggD d0 with
          | true =>
            rw [hag] at h
            simp only [cond_true] at h
            cases h with
            | mk hl hv h => exact ⟨_, h, fun a w ha _ => by simp [execOp, Instr.index, asIntOf, run_arr hd, ev_eval ha hx, ev_eval ha hix, hj, run_size' hu, part_agg hu hag, hv]⟩
          | false =>
            rw [hag] at h
            simp only [cond_false] at h
            cases h with
            | mk hv h => exact ⟨_, h, fun a w ha _ => by simp [execOp, Instr.index, asIntOf, run_arr hd, ev_eval ha hx, ev_eval ha hix, hj, run_size' hu, part_one hu hag _ _ _ hv]⟩
      · exact h.elim
    · exact h.elim
  case field t x f =>
    simp only [sxOp] at h
    split at h
    · rename_i fs cs hd hx
      split at h
      · rename_i fo ft hf
        obtain ⟨l, hl1, hl2⟩ := Sx.ustruct hd
        subst hl2
        rw [nthF_eq, List.getElem?_map, Array.getElem?_toList] at hf
        obtain ⟨y, hy1, hy2⟩ := Option.map_eq_some_iff.1 hf
        simp only [Prod.mk.injEq] at hy2
        obtain ⟨rfl, rfl⟩ := hy2
        split at h
        · rename_i d0 n0 b0 z0 hu
          cases hag : isAggD d0 with
          | true =>
            rw [hag] at h
            simp only [cond_true] at h
            cases h with
            | mk hl hv h => exact ⟨_, h, fun a w ha _ => by simp [execOp, Instr.field, run_underlying hl1, ev_eval ha hx, hy1, asAgg, part_agg hu hag, hv]⟩
          | false =>
            rw [hag] at h
            simp only [cond_false] at h
            cases h with
            | mk hv h => exact ⟨_, h, fun a w ha _ => by simp [execOp, Instr.field, run_underlying hl1, ev_eval ha hx, hy1, asAgg, part_one hu hag _ _ _ hv]⟩
        · exact h.elim
      · exact h.elim
    · exact h.elim
  case extract x i =>
    simp only [sxOp] at h
    split at h
    · rename_i vs hv
      split at h
      · rename_i v hn
        rw [nthV_eq, Array.getElem?_toList] at hn
        exact ⟨_, h, fun a w ha _ => by simp [execOp, ev_eval ha hv, Instr.extract, hn]⟩
      · exact h.elim
    · exact h.elim
  case slice t x lo hi mx =>
    cases mx with
    | some m => simp only [Bool.false_eq_true] at hst
    | none =>
      simp only [sxOp] at h
      split at h
      · rename_i v hv
        obtain ⟨r, hA, hr⟩ := slice_get (S := S) (N := N) h
        exact ⟨r, hA, fun a w ha _ => by simp [execOp, ev_eval ha hv, hr a ha w]⟩
      · exact h.elim
  case makeFunc fn first captured =>
    simp only [sxOp] at h
    split at h
    · rename_i u v hu hv
      refine ⟨_, h, fun a w ha _ => ?_⟩
      have h1 : first.map a.eval = u.toArray := by apply Array.ext'; rw [Array.toList_map, evs_eval ha hu]
      have h2 : captured.map a.eval = v.toArray := by apply Array.ext'; rw [Array.toList_map, evs_eval ha hv]
      simp [execOp, Instr.makeFunc, h1, h2]
    · exact h.elim
  case call c =>
    obtain ⟨callee, args, tys⟩ := c
    cases callee with
    | builtin b =>
      simp only [sxOp] at h
      split at h
      · rename_i b' vs hcal hvs
        cases hcal
        have fin : ∀ (v : Value), (∀ w (cst : Array Bool), (builtin b tys ty cst vs.toArray).run S.P w = .ok (.value v) w) → ∀ a w, Agree N F a → Sat W M H w → (execOp a.eval ⟨dst, .call ⟨.builtin b, args, tys⟩, ty, pos, after, guard⟩).run S.P w = .ok (.value v) w := by
          intro v hv a w ha _
          have hargs : args.map a.eval = vs.toArray := by apply Array.ext'; rw [Array.toList_map, evs_eval ha hvs]
          simp [execOp, resolve, invoke, hargs, hv]
        simp only [stillConv, stillOp] at hst
        have hus : useSem b vs = false := by
          cases b <;> first
            | rfl
            | (simp at hst)
        rw [hus] at h
        simp only [cond_false] at h
        unfold sxBuiltin at h
        split at h
        · rename_i t r v ht
          have htys : tys = (t :: r).toArray := by apply Array.ext'; rw [ht]
          split at h
          · rename_i s hd; exact ⟨_, h, fin _ fun w cst => by simp [htys, builtin, Builtin.len_, run_str hd, goInt]⟩
          · rename_i e ao n cap hd; exact ⟨_, h, fin _ fun w cst => by simp [htys, builtin, Builtin.len_, run_sl hd, goInt]⟩
          · rename_i n e hd; exact ⟨_, h, fin _ fun w cst => by simp [htys, builtin, Builtin.len_, run_arr hd, goInt]⟩
          · cases h with
            | mk n hn hA =>
              refine ⟨_, hA, fun a w ha hs => ?_⟩
              have hev := evs_eval ha hvs
              have key : ∀ u : Value, args.toList.map a.eval = [u] → (Builtin.len_ tys ty #[u]).run S.P w = .ok (goInt n) w → (execOp a.eval ⟨dst, .call ⟨.builtin .len, args, tys⟩, ty, pos, after, guard⟩).run S.P w = .ok (.value (.int .i64 (n : Nat))) w := by
                intro u hu hr
                have hargs : args.map a.eval = #[u] := by apply Array.ext'; rw [Array.toList_map, hu]
                simp [execOp, resolve, invoke, hargs, builtin, hr, goInt]
              have := hn W M w ty hs
              simp only [Array.toArray_toList] at this
              exact key _ hev this
        · rename_i k x k' y
          cases hk : sameK k k' with
          | true => rw [hk] at h; exact ⟨_, h, fin _ fun w cst => by simp [builtin, Builtin.min_, Builtin.min2]⟩
          | false => rw [hk] at h; exact h.elim
        · rename_i k x k' y
          cases hk : sameK k k' with
          | true => rw [hk] at h; exact ⟨_, h, fin _ fun w cst => by simp [builtin, Builtin.max_, Builtin.max2]⟩
          | false => rw [hk] at h; exact h.elim
        · cases hst
        · cases hst
        · cases h with | mk v hr h => exact ⟨v, h, fin v fun w cst => by simpa using hr ty cst w⟩
      · rename_i hcal hvs; cases hcal
      · exact h.elim
    | value f => cases hst
    | invoke r m => cases hst
/-- An operation that makes and writes nothing is taken first. -/
theorem any_still (i : Nat) (hi : nthO ops i = some o) (hop : stillConv S o.op = true) (hns : noSel ops = true) (hf : freeB ops listed i = true) (hr : readyB ops listed i = true) (hni : memN i sp = false) (hw : waitsL ops sp i = true) (hsp : spoiltL sp listed = false)
    (hst : status N ops o D F = 2) (h : sxOp S W M N o F Hs fun v _ => SxAny S W M N ops Hs sp D (setB listed i) (upd o.dst v F) H K) : SxAny S W M N ops Hs sp D listed F H K := by
  refine ⟨fun a0 wr hwr a w ha hs hsm hs0 => ?_⟩
  rw [spoiltL_eq] at hsp
  rw [waitsL_eq] at hw
  have hs1 : Sat W M Hs w := by
    rcases hs0 with h | h
    · rw [hsp] at h; cases h
    · exact h
  obtain ⟨v, h, hrun⟩ := still_run hop h hs1 ha
  have ho : ops.toArray[i]? = some o := by rw [List.getElem?_toArray, ← nthO_eq]; exact hi
  replace hf := freeB_get hf
  have hun : listed.toArray.getD i true = false := hf.2
  have h1 := unlisted_set hun
  rw [← h1]
  have hm : o ∈ ops := by rw [nthO_eq] at hi; exact List.mem_of_getElem? hi
  refine wpAnyX_first ho (Region.noSelect_spec (by rw [← noSel_eq]; exact hns)) KQ_panic (Sat W M Hs) hni (.inr ⟨hw, fun _ h => h⟩) _ _ a w (Region.free_spec ho hf.1) (readyB_mem hr) (.inl ⟨(wanted_of ha).1 hst, fun w hw => hrun a w ha hw⟩) (.inl hsp) hs0 ?_
  cases h with
  | mk h =>
    rw [← set_list]
    exact h a0 wr hwr _ w (ha.put (status_dst hst) v) hs (hsm.put (hwr o hm) v) (by rw [set_list, spoilt_ne hni]; exact hs0)
/-- A test that an operation waits for. -/
theorem any_guard {j d : Nat} {t : Bool} (hgd : gdst ops j = some d) (hl : look F d = some (.bool t))
    (h : SxIf t (SxAny S W M N ops Hs sp ((j, true) :: D) listed ((d, some (.bool true)) :: F) H K) (SxAny S W M N ops Hs sp ((j, false) :: D) listed ((d, some (.bool false)) :: F) H K)) : SxAny S W M N ops Hs sp D listed F H K := by
  refine ⟨fun a0 wr hwr a w ha hs hsm hs0 => ?_⟩
  cases h with
  | mk h1 h2 =>
    cases t with
    | true => cases h1 rfl with | mk h => exact h a0 wr hwr a w (ha.bool hl) hs hsm hs0
    | false => cases h2 rfl with | mk h => exact h a0 wr hwr a w (ha.bool hl) hs hsm hs0
/-- Behind an operation that writes: is the stable part still there? -/
inductive SxStable (Hs H' : Hp) (A : Prop) : Prop
  | mk (ks : List Nat) (hk : pickH H' ks = some Hs) (hn : nodupB ks = true) (h : A)
theorem wpOp_any {D : List (Nat × Bool)} {Q' : Prop} {a0 : Act} {wr : List Nat} {a : Act} {w : World} (hi : nthO ops i = some o) (hst : status N ops o D F = 2) (ha : Agree N F a) (hs : Sat W M H w) {A : Value → Hp → Prop} (h : sxOp S W M N o F H A) {G : Act → World → Prop} (hG : ∀ v H' w', A v H' → Sat W M H' w' → G (a.put o.dst v) w') :
    wpOp S.P ops.toArray (KQ W M N wr a0 K) i G a w := by
  have ho : ops.toArray[i]? = some o := by rw [List.getElem?_toArray, ← nthO_eq]; exact hi
  unfold wpOp
  simp only [ho, (wanted_of ha).1 hst, if_true]
  refine .inl (Oper.wp_mono (fun a' w' hk => ?_) (sxOp_sound h ha hs _))
  obtain ⟨v, H', rfl, hs', hA⟩ := hk
  exact hG v H' w' hA hs'
/-- One operation alone may come up. -/
theorem any_one (i : Nat) (hi : nthO ops i = some o) (hr : readyLs ops listed = [i]) (hst : status N ops o D F = 2) (hu : getL listed i true = false)
    (h : sxOp S W M N o F H fun v H' => bif spoiltL sp (setB listed i) then SxAny S W M N ops Hs sp D (setB listed i) (upd o.dst v F) H' K else SxStable Hs H' (SxAny S W M N ops Hs sp D (setB listed i) (upd o.dst v F) H' K)) : SxAny S W M N ops Hs sp D listed F H K := by
  refine ⟨fun a0 wr hwr a w ha hs hsm hs0 => ?_⟩
  rw [readyLs_eq] at hr
  have hun : listed.toArray.getD i true = false := by rw [← getL_eq]; exact hu
  rw [← unlisted_set hun]
  have hm : o ∈ ops := by rw [nthO_eq] at hi; exact List.mem_of_getElem? hi
  refine ⟨fun h0 => (by rw [hr] at h0; cases h0), fun k hk => ?_⟩
  rw [hr] at hk
  simp at hk
  subst hk
  refine wpOp_any (Q' := True) (D := D) hi hst ha hs h fun v H' w' hA hs' => ?_
  rw [spoiltL_eq] at hA
  cases hsp : spoilt sp (setB listed k).toArray with
  | true =>
    rw [hsp] at hA
    cases hA with
    | mk hA =>
      rw [← set_list]
      exact ⟨.inl hsp, hA a0 wr hwr _ w' (ha.put (status_dst hst) v) hs' (hsm.put (hwr o hm) v) (.inl hsp)⟩
  | false =>
    rw [hsp] at hA
    simp only [cond_false] at hA
    cases hA with
    | mk ks hk hn hA =>
      have hst' := hs'.pick hk hn
      cases hA with
      | mk hA =>
        rw [← set_list]
        exact ⟨.inr hst', hA a0 wr hwr _ w' (ha.put (status_dst hst) v) hs' (hsm.put (hwr o hm) v) (.inr hst')⟩
/-- More may stand still than was said. -/
theorem any_base {Hs' : Hp} (ks : List Nat) (hk : pickH Hs' ks = some Hs) (hn : nodupB ks = true) (ks' : List Nat) (hk' : pickH H ks' = some Hs') (hn' : nodupB ks' = true) (h : SxAny S W M N ops Hs' sp D listed F H K) : SxAny S W M N ops Hs sp D listed F H K := by
  have mono : ∀ (fuel : Nat) (L : Array Bool) (Q : Exit → Act → World → Prop) (a : Act) (w : World), wpAnyX S.P ops.toArray Q (Sat W M Hs') sp fuel L a w → wpAnyX S.P ops.toArray Q (Sat W M Hs) sp fuel L a w := by
    intro fuel
    induction fuel with
    | zero => intro L Q a w h; exact h
    | succ n ih => intro L Q a w h; exact ⟨h.1, fun i hi => wpOp_mono (fun a' w' h' => ⟨h'.1.imp id (fun h => h.pick hk hn), ih _ _ _ _ h'.2⟩) (h.2 i hi)⟩
  cases h with
  | mk h => exact ⟨fun a0 wr hwr a w ha hs hsm hs0 => mono _ _ _ _ _ (h a0 wr hwr a w ha hs hsm (.inr (hs.pick hk' hn')))⟩
/-- What is asked of an operation that comes up. -/
def SxUp (S : Sx) (W : World) (M : List Nat) (N : Nat) (ops : List Oper) (Hs : Hp) (sp : List Nat) (D : List (Nat × Bool)) (listed : List Bool) (F : Fr) (H : Hp) (K : Fr → Hp → Prop) (i : Nat) : Prop := ∃ o, nthO ops i = some o ∧ Nat.beq (status N ops o D F) 2 = true ∧ getL listed i true = false ∧
  sxOp S W M N o F H fun v H' => bif spoiltL sp (setB listed i) then SxAny S W M N ops Hs sp D (setB listed i) (upd o.dst v F) H' K else SxStable Hs H' (SxAny S W M N ops Hs sp D (setB listed i) (upd o.dst v F) H' K)
theorem any_ups (hr : readyLs ops listed ≠ []) (h : ∀ i ∈ readyLs ops listed, SxUp S W M N ops Hs sp D listed F H K i) : SxAny S W M N ops Hs sp D listed F H K := by
  rw [readyLs_eq] at hr h
  refine ⟨fun a0 wr hwr a w ha hs hsm hs0 => ?_⟩
  obtain ⟨k0, hk0⟩ : ∃ k, k ∈ Region.ready .any ops.toArray listed.toArray := List.exists_mem_of_ne_nil _ hr
  obtain ⟨o0, _, _, hu0, _⟩ := h k0 hk0
  have hun0 : listed.toArray.getD k0 true = false := by rw [← getL_eq]; exact hu0
  rw [← unlisted_set hun0]
  refine ⟨fun h0 => absurd h0 hr, fun k hk => ?_⟩
  obtain ⟨o, hi, hst, hu, h⟩ := h k hk
  have hst := Nat.eq_of_beq_eq_true hst
  have hun : listed.toArray.getD k true = false := by rw [← getL_eq]; exact hu
  have hm : o ∈ ops := by rw [nthO_eq] at hi; exact List.mem_of_getElem? hi
  have hsame : unlisted (listed.toArray.setIfInBounds k0 true) = unlisted (listed.toArray.setIfInBounds k true) := by
    have h1 := unlisted_set hun0
    have h2 := unlisted_set hun
    omega
  rw [hsame]
  refine wpOp_any (Q' := True) (D := D) hi hst ha hs h fun v H' w' hA hs' => ?_
  rw [spoiltL_eq] at hA
  cases hsp : spoilt sp (setB listed k).toArray with
  | true =>
    rw [hsp] at hA
    cases hA with
    | mk hA =>
      rw [← set_list]
      exact ⟨.inl hsp, hA a0 wr hwr _ w' (ha.put (status_dst hst) v) hs' (hsm.put (hwr o hm) v) (.inl hsp)⟩
  | false =>
    rw [hsp] at hA
    simp only [cond_false] at hA
    cases hA with
    | mk ks hk hn hA =>
      have hst' := hs'.pick hk hn
      cases hA with
      | mk hA =>
        rw [← set_list]
        exact ⟨.inr hst', hA a0 wr hwr _ w' (ha.put (status_dst hst) v) hs' (hsm.put (hwr o hm) v) (.inr hst')⟩
/-- Two may come up. -/
theorem any_two {j : Nat} {o' : Oper} (hr : readyLs ops listed = [i, j]) (hi : nthO ops i = some o) (hst : Nat.beq (status N ops o D F) 2 = true) (hu : getL listed i true = false) (hj : nthO ops j = some o') (hst' : Nat.beq (status N ops o' D F) 2 = true) (hu' : getL listed j true = false)
    (h : sxOp S W M N o F H fun v H' => bif spoiltL sp (setB listed i) then SxAny S W M N ops Hs sp D (setB listed i) (upd o.dst v F) H' K else SxStable Hs H' (SxAny S W M N ops Hs sp D (setB listed i) (upd o.dst v F) H' K))
    (h' : sxOp S W M N o' F H fun v H' => bif spoiltL sp (setB listed j) then SxAny S W M N ops Hs sp D (setB listed j) (upd o'.dst v F) H' K else SxStable Hs H' (SxAny S W M N ops Hs sp D (setB listed j) (upd o'.dst v F) H' K)) : SxAny S W M N ops Hs sp D listed F H K := by
  refine any_ups (by rw [hr]; simp) fun k hk => ?_
  rw [hr] at hk
  rcases List.mem_cons.1 hk with e | e
  · subst e; exact ⟨o, hi, hst, hu, h⟩
  · simp at e; subst e; exact ⟨o', hj, hst', hu', h'⟩
/-- Three may come up. -/
theorem any_three {j k : Nat} {o' o'' : Oper} (hr : readyLs ops listed = [i, j, k]) (h : SxUp S W M N ops Hs sp D listed F H K i) (h' : SxUp S W M N ops Hs sp D listed F H K j) (h'' : SxUp S W M N ops Hs sp D listed F H K k) : SxAny S W M N ops Hs sp D listed F H K := by
  refine any_ups (by rw [hr]; simp) fun l hl => ?_
  rw [hr] at hl
  simp only [List.mem_cons, List.not_mem_nil, or_false] at hl
  rcases hl with e | e | e <;> subst e
  · exact h
  · exact h'
  · exact h''
/-- All have come up. -/
theorem any_done (hr : readyLs ops listed = []) (h : K F H) : SxAny S W M N ops Hs sp D listed F H K := by
  rw [readyLs_eq] at hr
  refine ⟨fun a0 wr hwr a w ha hs hsm hs0 => ?_⟩
  have hq : KQ W M N wr a0 K .normal a w := ⟨F, H, h, ha, hs, hsm⟩
  cases unlisted listed.toArray with
  | zero => exact ⟨hr, hq⟩
  | succ n => exact ⟨fun _ => hq, by rw [hr]; simp⟩
/-- Those that ask nothing, taken first, in the order of the text. -/
def runAny (S : Sx) (N : Nat) (ops : List Oper) (sp : List Nat) (D : List (Nat × Bool)) : List Nat → List Bool → Fr → List Bool × Fr
  | [], L, F => (L, F)
  | i :: r, L, F => match nthO ops i with
    | some o => bif freeB ops L i && readyB ops L i && !memN i sp then
        (match status N ops o D F with
        | 2 => match pureOp S F o.op with
          | some v => runAny S N ops sp D r (setB L i) (upd o.dst v F)
          | none => runAny S N ops sp D r L F
        | 1 => runAny S N ops sp D r (setB L i) (upd o.dst undef F)
        | _ => runAny S N ops sp D r L F)
      else runAny S N ops sp D r L F
    | none => runAny S N ops sp D r L F
theorem any_run (hns : noSel ops = true) {L' : List Bool} {F' : Fr} : ∀ {is : List Nat} {listed : List Bool} {F : Fr}, runAny S N ops sp D is listed F = (L', F') → SxAny S W M N ops Hs sp D L' F' H K → SxAny S W M N ops Hs sp D listed F H K
  | [], L, F, h, hk => by
    simp only [runAny, Prod.mk.injEq] at h
    obtain ⟨rfl, rfl⟩ := h
    exact hk
  | i :: r, L, F, h, hk => by
    unfold runAny at h
    split at h
    · rename_i o ho
      cases hb : (freeB ops L i && readyB ops L i && !memN i sp) with
      | false => rw [hb] at h; exact any_run hns h hk
      | true =>
        rw [hb] at h
        simp only [cond_true] at h
        simp only [Bool.and_eq_true, Bool.not_eq_true'] at hb
        obtain ⟨⟨h1, h2⟩, h3⟩ := hb
        split at h
        · rename_i hst
          split at h
          · rename_i v hv
            exact any_pure ho hns h1 h2 h3 hst hv (any_run hns h hk)
          · exact any_run hns h hk
        · rename_i hst
          exact any_skip ho hns h1 h2 h3 hst (any_run hns h hk)
        · exact any_run hns h hk
    · exact any_run hns h hk
theorem any_go (hns : noSel ops = true) {L' : List Bool} {F' : Fr} (h : runAny S N ops sp D (upTo 0 ops.length) listed F = (L', F')) (hk : SxAny S W M N ops Hs sp D L' F' H K) : SxAny S W M N ops Hs sp D listed F H K := any_run hns h hk
theorem SxCode.draw {id : Nat} {ops : Array Oper} {l : List Oper} {Q : Exit → Fr → Hp → Prop} (hl : ops = ⟨l⟩) (Hs : Hp) (sp : List Nat) (ks : List Nat) (hk : pickH H ks = some Hs) (hn : nodupB ks = true) (h : SxAny S W M N l Hs sp [] (falses l) F H (Q .normal)) : SxCode S W M N (.region id ops true) Q F H := by
  subst hl
  refine ⟨fun a w ha hs => ?_⟩
  have hs' : Sat W M H w.drew := hs.grow (drew_grown w)
  cases h with
  | mk h =>
    have hx := h a (writes (.region id ⟨l⟩ true)) (fun o ho t ht => List.mem_filterMap.2 ⟨o, ho, ht⟩) a w.drew ha hs' (Same.refl _ _) (.inr (hs'.pick hk hn))
    have hm : ∀ e a' w', KQ W M N (writes (.region id ⟨l⟩ true)) a (Q .normal) e a' w' → Lift W M N Q (writes (.region id ⟨l⟩ true)) a e a' w' := by
      intro e a' w' hq
      cases e with
      | normal => obtain ⟨F', H', hq, h1, h2, h3⟩ := hq; exact ⟨F', H', hq, h1, h2, h3⟩
      | exit _ => exact hq.elim
      | goto _ => exact hq.elim
      | ret => exact hq.elim
      | panic _ => exact hq.elim
      | outgrown => exact hq.elim
    refine wp_mono (wp_region_any S.mixed ?_) hm
    have he : (falses l).toArray = Array.replicate l.length false := by rw [falses_eq]; simp
    rw [he, unlisted_replicate] at hx
    exact wpAny_of_X _ _ _ _ hx
/-- The next operation that makes and writes nothing. -/
def stillAt (S : Sx) (N : Nat) (ops : List Oper) (sp : List Nat) (D : List (Nat × Bool)) (L : List Bool) (F : Fr) : List Nat → Option (Nat × Oper)
  | [] => none
  | i :: r => match nthO ops i with
    | some o => bif freeB ops L i && readyB ops L i && !memN i sp && waitsL ops sp i && !spoiltL sp L && Nat.beq (status N ops o D F) 2 && stillConv S o.op then some (i, o) else stillAt S N ops sp D L F r
    | none => stillAt S N ops sp D L F r
theorem stillAt_get : ∀ {is : List Nat} {L : List Bool}, stillAt S N ops sp D L F is = some (i, o) → nthO ops i = some o ∧ freeB ops L i = true ∧ readyB ops L i = true ∧ memN i sp = false ∧ waitsL ops sp i = true ∧ spoiltL sp L = false ∧ status N ops o D F = 2 ∧ stillConv S o.op = true
  | [], L, h => by cases h
  | k :: r, L, h => by
    unfold stillAt at h
    split at h
    · rename_i o' ho
      cases hb : (freeB ops L k && readyB ops L k && !memN k sp && waitsL ops sp k && !spoiltL sp L && Nat.beq (status N ops o' D F) 2 && stillConv S o'.op) with
      | false => rw [hb] at h; exact stillAt_get h
      | true =>
        rw [hb] at h
        simp only [cond_true, Option.some.injEq, Prod.mk.injEq] at h
        obtain ⟨rfl, rfl⟩ := h
        simp only [Bool.and_eq_true, Bool.not_eq_true'] at hb
        obtain ⟨⟨⟨⟨⟨⟨h1, h2⟩, h3⟩, h4⟩, h5⟩, h6⟩, h7⟩ := hb
        exact ⟨ho, h1, h2, h3, h4, h5, Nat.eq_of_beq_eq_true h6, h7⟩
    · exact stillAt_get h
theorem any_st (hns : noSel ops = true) (h : stillAt S N ops sp D listed F (upTo 0 ops.length) = some (i, o)) (k : sxOp S W M N o F Hs fun v _ => SxAny S W M N ops Hs sp D (setB listed i) (upd o.dst v F) H K) : SxAny S W M N ops Hs sp D listed F H K := by
  obtain ⟨h1, h2, h3, h4, h5, h6, h7, h8⟩ := stillAt_get h
  exact any_still i h1 h8 hns h2 h3 h4 h5 h6 h7 k
theorem any_on (hr : readyLs ops listed = [i]) (hi : nthO ops i = some o) (hst : Nat.beq (status N ops o D F) 2 = true) (hu : getL listed i true = false)
    (h : sxOp S W M N o F H fun v H' => bif spoiltL sp (setB listed i) then SxAny S W M N ops Hs sp D (setB listed i) (upd o.dst v F) H' K else SxStable Hs H' (SxAny S W M N ops Hs sp D (setB listed i) (upd o.dst v F) H' K)) : SxAny S W M N ops Hs sp D listed F H K :=
  any_one i hi hr (Nat.eq_of_beq_eq_true hst) hu h
def guardAt (ops : List Oper) (D : List (Nat × Bool)) (L : List Bool) (F : Fr) : List Nat → Option (Nat × Nat × Bool)
  | [] => none
  | i :: r => bif getL L i true then guardAt ops D L F r else match nthO ops i with
    | some o => match o.guard with
      | some (j, _) => match lookD D j, gdst ops j with
        | none, some d => match look F d with
          | some (.bool t) => some (j, d, t)
          | _ => guardAt ops D L F r
        | _, _ => guardAt ops D L F r
      | none => guardAt ops D L F r
    | none => guardAt ops D L F r
theorem guardAt_get {j d : Nat} {t : Bool} : ∀ {is : List Nat} {L : List Bool}, guardAt ops D L F is = some (j, d, t) → gdst ops j = some d ∧ look F d = some (.bool t)
  | [], L, h => by cases h
  | k :: r, L, h => by
    unfold guardAt at h
    cases hb : getL L k true with
    | true => rw [hb] at h; exact guardAt_get h
    | false =>
      rw [hb] at h
      simp only [cond_false] at h
      split at h
      · split at h
        · split at h
          · rename_i d' hD hd
            split at h
            · rename_i t' hl
              simp only [Option.some.injEq, Prod.mk.injEq] at h
              obtain ⟨rfl, rfl, rfl⟩ := h
              exact ⟨hd, hl⟩
            · exact guardAt_get h
          · exact guardAt_get h
        · exact guardAt_get h
      · exact guardAt_get h
theorem any_gd {j d : Nat} {t : Bool} (h : guardAt ops D listed F (upTo 0 ops.length) = some (j, d, t))
    (k : SxIf t (SxAny S W M N ops Hs sp ((j, true) :: D) listed ((d, some (.bool true)) :: F) H K) (SxAny S W M N ops Hs sp ((j, false) :: D) listed ((d, some (.bool false)) :: F) H K)) : SxAny S W M N ops Hs sp D listed F H K :=
  any_guard (guardAt_get h).1 (guardAt_get h).2 k
theorem SxStable.self {Hs : Hp} {A : Prop} (ks : List Nat) {H' : Hp} (hk : pickH H' ks = some Hs) (hn : nodupB ks = true) (h : A) : SxStable Hs H' A := ⟨ks, hk, hn, h⟩
/-- The same, all that is known standing still (but for 'sp'). -/
theorem SxCode.drawAll {id : Nat} {ops : Array Oper} {l : List Oper} {Q : Exit → Fr → Hp → Prop} (hl : ops = ⟨l⟩) (sp : List Nat) (h : SxAny S W M N l H sp [] (falses l) F H (Q .normal)) : SxCode S W M N (.region id ops true) Q F H := by
  have key : ∀ (n : Nat) (H : Hp), pickH H ((List.range' n (H.length - n))) = some (H.drop n) := by
    intro n H
    generalize hm : H.length - n = m
    induction m generalizing n with
    | zero => rw [List.drop_of_length_le (by omega)]; rfl
    | succ m ih =>
      have hlt : n < H.length := by omega
      rw [List.range'_succ]
      simp only [pickH]
      rw [List.getElem?_eq_getElem hlt]
      simp only
      rw [ih (n + 1) (by omega)]
      simp only
      rw [List.drop_eq_getElem_cons hlt]
  have nd : ∀ (m n : Nat), nodupB (List.range' n m) = true := by
    intro m
    induction m with
    | zero => intro n; rfl
    | succ m ih =>
      intro n
      rw [List.range'_succ]
      simp only [nodupB, ih, Bool.and_true, Bool.not_eq_true', List.any_eq_false]
      intro x hx
      have := List.mem_range'_1.1 hx
      simp
      omega
  exact SxCode.draw hl H sp (List.range' 0 (H.length - 0)) (by have := key 0 H; simpa using this) (nd _ _) h
end
end
end Go.Proofs.Ytdififdnnpgjoaa
/- A symbolic walk: structs and arrays compared. No program is named here. -/
namespace Go.Proofs.Ytdififdnnpgjoaa
open Go.RowKit

/-- A cell that is compared plainly. -/
inductive KD where
  | bool | int (k : IntKind) | str
def okK : KD → Value → Bool
  | .bool, .bool _ => true
  | .int k, .int k' _ => sameK k k'
  | .str, .string _ => true
  | _, _ => false
def allK : List KD → List Value → Bool
  | [], [] => true
  | k :: ks, v :: vs => okK k v && allK ks vs
  | _, _ => false
def cellEq : Value → Value → Bool
  | .bool a, .bool b => a == b
  | .int _ a, .int _ b => a == b
  | .string a, .string b => strEq a b
  | _, _ => false
def cellsEq : List Value → List Value → Bool
  | [], [] => true
  | u :: us, v :: vs => bif cellEq u v then cellsEq us vs else false
  | _, _ => false
theorem cellEq_iff {k : KD} {u v : Value} (hu : okK k u = true) (hv : okK k v = true) : cellEq u v = true ↔ u = v := by
  cases k <;> cases u <;> simp only [okK, Bool.false_eq_true] at hu <;> cases v <;> simp only [okK, Bool.false_eq_true] at hv
  · simp [cellEq]
  · have h1 := sameK_eq hu
    have h2 := sameK_eq hv
    subst h1; subst h2
    simp [cellEq]
  · simp only [cellEq, strEq_iff, Value.string.injEq]
theorem cellsEq_iff : ∀ {ks : List KD} {us vs : List Value}, allK ks us = true → allK ks vs = true → (cellsEq us vs = true ↔ us = vs)
  | [], [], [], _, _ => by simp [cellsEq]
  | [], _ :: _, _, h, _ => by simp [allK] at h
  | [], [], _ :: _, _, h => by simp [allK] at h
  | _ :: _, [], _, h, _ => by simp [allK] at h
  | _ :: _, _ :: _, [], _, h => by simp [allK] at h
  | k :: ks, u :: us, v :: vs, h1, h2 => by
    simp only [allK, Bool.and_eq_true] at h1 h2
    have e1 := cellEq_iff h1.1 h2.1
    have e2 := cellsEq_iff h1.2 h2.2
    unfold cellsEq
    cases hc : cellEq u v with
    | true => simp only [cond_true, e2, List.cons.injEq, e1.1 hc, true_and]
    | false =>
      simp only [cond_false, Bool.false_eq_true, false_iff, List.cons.injEq, not_and]
      intro h
      rw [e1.2 h] at hc
      cases hc
theorem allK_length : ∀ {ks : List KD} {us : List Value}, allK ks us = true → us.length = ks.length
  | [], [], _ => rfl
  | [], _ :: _, h => by simp [allK] at h
  | _ :: _, [], h => by simp [allK] at h
  | k :: ks, u :: us, h => by
    simp only [allK, Bool.and_eq_true] at h
    simp [allK_length h.2]
theorem allK_append : ∀ {ks ls : List KD} {us : List Value}, allK (ks ++ ls) us = true → allK ks (us.take ks.length) = true ∧ allK ls (us.drop ks.length) = true
  | [], ls, us, h => by simpa [allK] using h
  | k :: ks, ls, [], h => by simp [allK] at h
  | k :: ks, ls, u :: us, h => by
    simp only [List.cons_append, allK, Bool.and_eq_true] at h
    obtain ⟨h1, h2⟩ := allK_append h.2
    simp [allK, h.1, h1, h2]
theorem allK_mk : ∀ {ks ls : List KD} {us vs : List Value}, allK ks us = true → allK ls vs = true → allK (ks ++ ls) (us ++ vs) = true
  | [], ls, [], vs, _, h => by simpa using h
  | [], _, _ :: _, _, h, _ => by simp [allK] at h
  | _ :: _, _, [], _, h, _ => by simp [allK] at h
  | k :: ks, ls, u :: us, vs, h1, h2 => by
    simp only [allK, Bool.and_eq_true] at h1
    simp only [List.cons_append, allK, h1.1, allK_mk h1.2 h2, Bool.and_self]
theorem cellsEq_append : ∀ {ks : List KD} {us us' vs vs' : List Value}, allK ks us = true → allK ks us' = true → cellsEq (us ++ vs) (us' ++ vs') = bif cellsEq us us' then cellsEq vs vs' else false
  | [], [], [], vs, vs', _, _ => by simp [cellsEq]
  | [], _ :: _, _, _, _, h, _ => by simp [allK] at h
  | [], [], _ :: _, _, _, _, h => by simp [allK] at h
  | _ :: _, [], _, _, _, h, _ => by simp [allK] at h
  | _ :: _, _ :: _, [], _, _, _, h => by simp [allK] at h
  | k :: ks, u :: us, u' :: us', vs, vs', h1, h2 => by
    simp only [allK, Bool.and_eq_true] at h1 h2
    simp only [List.cons_append, cellsEq, cellsEq_append h1.2 h2.2]
    cases cellEq u u' <;> rfl
/-- The cells of a type whose values are compared plainly. -/
def reps : Nat → List KD → List KD
  | 0, _ => []
  | n + 1, ks => ks ++ reps n ks
def kdsFs (f : Nat → Option (List KD)) : Nat → List (Nat × Nat) → Option (List KD)
  | _, [] => some []
  | o, (off, t) :: r => bif Nat.beq o off then (match f t with
      | some ks => match kdsFs f (o + ks.length) r with
        | some ls => some (ks ++ ls)
        | none => none
      | none => none) else none
def szC (S : Sx) (t : Nat) (o : Option (List KD)) : Option (List KD) := match o, S.sz t with
  | some ks, some k => bif Nat.beq ks.length k then some ks else none
  | _, _ => none
theorem szC_get {S : Sx} {t : Nat} {o : Option (List KD)} {ks : List KD} (h : szC S t o = some ks) : o = some ks ∧ S.sz t = some ks.length := by
  unfold szC at h
  split at h
  · rename_i ls k hs
    cases hb : Nat.beq ls.length k with
    | false => rw [hb] at h; cases h
    | true =>
      rw [hb] at h
      obtain rfl := Option.some.inj h
      exact ⟨rfl, by rw [hs, Nat.eq_of_beq_eq_true hb]⟩
  · cases h
def kdsOf (S : Sx) : Nat → Nat → Option (List KD)
  | 0, _ => none
  | d + 1, t => match S.desc t with
    | some .bool => some [.bool]
    | some (.int k) => some [.int k]
    | some .string => some [.str]
    | some (.array n e) => match szC S e (kdsOf S d e) with
      | some ks => some (reps n ks)
      | none => none
    | some (.struct fs) => bif memN t S.cmp then kdsFs (fun f => szC S f (kdsOf S d f)) 0 fs else none
    | _ => none
theorem cmp_ok {S : Sx} {t : Nat} (h : memN t S.cmp = true) : S.P.stoodInHeld t = false ∧ S.P.eqGuardType S.P.depth t = false ∧ ∀ f ∈ (S.P.fieldsOf t).toList, f.name ≠ "_" := by
  have h1 := List.all_eq_true.1 S.cmpOk t (memN_mem h)
  simp only [Bool.and_eq_true, Bool.not_eq_true', Array.all_eq_true'] at h1
  exact ⟨h1.1.1, h1.1.2, fun f hf => by simpa using h1.2 f (by simpa using hf)⟩
/-- The value of cells. -/
def valT (d : TD) (xs : List Value) : Value := bif isAggD d then .agg xs.toArray else xs.headD undef
theorem part_val {S : Sx} {t : Nat} {i : TInf} (hi : tl S.T t = some i) {xs : List Value} {off : Nat} (hl : off + i.size ≤ xs.length) (h1 : isAggD i.d = false → i.size = 1) (w : World) :
    (part t xs.toArray off).run S.P w = .ok (valT i.d ((xs.drop off).take i.size)) w := by
  unfold valT
  cases hag : isAggD i.d with
  | true => rw [part_agg hi hag]; simp
  | false =>
    have h1 := h1 hag
    have hlt : off < xs.length := by omega
    rw [part_one hi hag xs.toArray off xs[off] (by simp [hlt])]
    have h2 : (xs.drop off).take 1 = [xs[off]] := by rw [List.drop_eq_getElem_cons hlt]; rfl
    rw [h1, h2]
    rfl
section
variable {S : Sx}
theorem sz_of_kds : ∀ (d t : Nat) (ks : List KD), kdsOf S d t = some ks → ∃ i, tl S.T t = some i
  | 0, t, ks, h => by cases h
  | d + 1, t, ks, h => by
    unfold kdsOf Sx.desc at h
    cases ht : tl S.T t with
    | none => rw [ht] at h; cases h
    | some i => exact ⟨i, rfl⟩
theorem reps_add (ks : List KD) : ∀ a b : Nat, reps (a + b) ks = reps a ks ++ reps b ks
  | 0, b => by simp [reps]
  | a + 1, b => by rw [show a + 1 + b = (a + b) + 1 by omega]; simp [reps, reps_add ks a b]
theorem reps_len (ks : List KD) : ∀ a : Nat, (reps a ks).length = a * ks.length
  | 0 => by simp [reps]
  | a + 1 => by simp [reps, reps_len ks a, Nat.add_mul]; omega
theorem items_run {m d e : Nat} {ke : List KD} {j : TInf} (hj : tl S.T e = some j) (hs : j.size = ke.length) (h1 : isAggD j.d = false → j.size = 1)
    (IH : ∀ xs ys : List Value, allK ke xs = true → allK ke ys = true → ∀ w, (Op.equalIn (m + d) e (valT j.d xs) (valT j.d ys)).run S.P w = .ok (cellsEq xs ys) w) (xs ys : List Value) (w : World) :
    ∀ (r s : Nat), allK (reps (s + r) ke) xs = true → allK (reps (s + r) ke) ys = true → (Op.eqItems (m + d) e ke.length xs.toArray ys.toArray (List.range' s r)).run S.P w = .ok (cellsEq (xs.drop (s * ke.length)) (ys.drop (s * ke.length))) w
  | 0, s, hx, hy => by
    have lx := allK_length hx
    have ly := allK_length hy
    rw [reps_len, Nat.add_zero] at lx ly
    rw [List.drop_of_length_le (by omega), List.drop_of_length_le (by omega)]
    simp [Op.eqItems, cellsEq]
  | r + 1, s, hx, hy => by
    have ih := items_run hj hs h1 IH xs ys w r (s + 1) (by rw [show s + 1 + r = s + (r + 1) by omega]; exact hx) (by rw [show s + 1 + r = s + (r + 1) by omega]; exact hy)
    have lx := allK_length hx
    have ly := allK_length hy
    rw [reps_len] at lx ly
    have hle : s * ke.length + ke.length ≤ (s + (r + 1)) * ke.length := by
      rw [← Nat.succ_mul]; exact Nat.mul_le_mul_right _ (by omega)
    have sub : ∀ zs : List Value, allK (reps (s + (r + 1)) ke) zs = true → allK ke ((zs.drop (s * ke.length)).take ke.length) = true := by
      intro zs hz
      rw [reps_add] at hz
      have h2 := (allK_append hz).2
      rw [reps_len] at h2
      exact (allK_append (ks := ke) (ls := reps r ke) h2).1
    have px := part_val (S := S) hj (xs := xs) (off := s * ke.length) (by rw [hs, lx]; exact hle) h1 w
    have py := part_val (S := S) hj (xs := ys) (off := s * ke.length) (by rw [hs, ly]; exact hle) h1 w
    have he := IH _ _ (sub xs hx) (sub ys hy) w
    rw [hs] at px py
    have hsp : ∀ zs : List Value, zs.drop (s * ke.length) = (zs.drop (s * ke.length)).take ke.length ++ zs.drop ((s + 1) * ke.length) := by
      intro zs
      rw [Nat.succ_mul, ← List.drop_drop, List.take_append_drop]
    rw [hsp xs, hsp ys, cellsEq_append (sub xs hx) (sub ys hy)]
    rw [List.range'_succ]
    simp only [Op.eqItems, Sem.run_bind, px, py, he, Result.andThen_ok]
    cases hc : cellsEq ((xs.drop (s * ke.length)).take ke.length) ((ys.drop (s * ke.length)).take ke.length) with
    | false => simp
    | true => simpa using ih
theorem fields_run {m d : Nat} (IH : ∀ (t : Nat) (ks : List KD), szC S t (kdsOf S d t) = some ks → ∀ (i : TInf), tl S.T t = some i → ∀ (xs ys : List Value), allK ks xs = true → allK ks ys = true → ∀ w, (Op.equalIn (m + d) t (valT i.d xs) (valT i.d ys)).run S.P w = .ok (cellsEq xs ys) w)
    (h1 : ∀ (t : Nat) (ks : List KD) (i : TInf), szC S t (kdsOf S d t) = some ks → tl S.T t = some i → i.size = ks.length ∧ (isAggD i.d = false → i.size = 1)) (hsz : ∀ (t : Nat) (ks : List KD), szC S t (kdsOf S d t) = some ks → ∃ i, tl S.T t = some i) (xs ys : List Value) (w : World) :
    ∀ (l : List Field) (o : Nat) (ls : List KD), (∀ f ∈ l, f.name ≠ "_") → kdsFs (fun f => szC S f (kdsOf S d f)) o (l.map fun (f : Field) => (f.offset, f.type)) = some ls → o ≤ xs.length → o ≤ ys.length → allK ls (xs.drop o) = true → allK ls (ys.drop o) = true →
      (Op.eqFields (m + d) xs.toArray ys.toArray l).run S.P w = .ok (cellsEq (xs.drop o) (ys.drop o)) w
  | [], o, ls, _, h, _, _, hx, hy => by
    simp only [List.map_nil, kdsFs, Option.some.injEq] at h
    subst h
    have lx := allK_length hx
    have ly := allK_length hy
    rw [List.eq_nil_of_length_eq_zero lx, List.eq_nil_of_length_eq_zero ly]
    simp [Op.eqFields, cellsEq]
  | f :: l, o, ls, hn, h, ox, oy, hx, hy => by
    simp only [List.map_cons, kdsFs] at h
    cases hb : Nat.beq o f.offset with
    | false => rw [hb] at h; cases h
    | true =>
      rw [hb] at h
      have ho := Nat.eq_of_beq_eq_true hb
      simp only [cond_true] at h
      clear hb
      subst ho
      split at h
      · rename_i kf hkf
        split at h
        · rename_i lr hlr
          obtain rfl := Option.some.inj h
          obtain ⟨i, hi⟩ := hsz f.type kf hkf
          obtain ⟨his, h1'⟩ := h1 f.type kf i hkf hi
          have ax := allK_append hx
          have ay := allK_append hy
          have lx := allK_length hx
          have ly := allK_length hy
          simp only [List.length_drop, List.length_append] at lx ly
          have px := part_val (S := S) hi (xs := xs) (off := f.offset) (by rw [his]; omega) h1' w
          have py := part_val (S := S) hi (xs := ys) (off := f.offset) (by rw [his]; omega) h1' w
          rw [his] at px py
          have he := IH f.type kf hkf i hi _ _ ax.1 ay.1 w
          have ih := fields_run IH h1 hsz xs ys w l (f.offset + kf.length) lr (fun f hf => hn f (by simp [hf])) hlr (by omega) (by omega) (by rw [← List.drop_drop]; exact ax.2) (by rw [← List.drop_drop]; exact ay.2)
          have hsp : ∀ zs : List Value, zs.drop f.offset = (zs.drop f.offset).take kf.length ++ zs.drop (f.offset + kf.length) := by
            intro zs
            rw [← List.drop_drop, List.take_append_drop]
          rw [hsp xs, hsp ys, cellsEq_append ax.1 ay.1]
          have hnf : f.name ≠ "_" := hn f (by simp)
          simp only [Op.eqFields, hnf, ne_eq, not_false_eq_true, if_true, Sem.run_bind, px, py, he, Result.andThen_ok]
          cases hc : cellsEq ((xs.drop f.offset).take kf.length) ((ys.drop f.offset).take kf.length) with
          | false => simp
          | true => simpa using ih
        · cases h
      · cases h
theorem one_of {d t : Nat} {ks : List KD} {i : TInf} (h : szC S t (kdsOf S d t) = some ks) (hi : tl S.T t = some i) : i.size = ks.length ∧ (isAggD i.d = false → i.size = 1) := by
  obtain ⟨h1, h2⟩ := szC_get h
  have hs : i.size = ks.length := by
    unfold Sx.sz at h2
    rw [hi] at h2
    exact Option.some.inj h2
  refine ⟨hs, fun hag => ?_⟩
  rw [hs]
  cases d with
  | zero => cases h1
  | succ d =>
    unfold kdsOf at h1
    rw [Sx.descOf hi] at h1
    cases hd : i.d with
    | bool => rw [hd] at h1; rw [← Option.some.inj h1]; rfl
    | int k => rw [hd] at h1; rw [← Option.some.inj h1]; rfl
    | string => rw [hd] at h1; rw [← Option.some.inj h1]; rfl
    | slice e => rw [hd] at h1; cases h1
    | other => rw [hd] at h1; cases h1
    | array n e => rw [hd] at hag; cases hag
    | struct fs => rw [hd] at hag; cases hag
theorem eq_run (m : Nat) : ∀ (d t : Nat) (ks : List KD), kdsOf S d t = some ks → ∀ (i : TInf), tl S.T t = some i → ∀ (xs ys : List Value), allK ks xs = true → allK ks ys = true → ∀ w, (Op.equalIn (m + d) t (valT i.d xs) (valT i.d ys)).run S.P w = .ok (cellsEq xs ys) w
  | 0, t, ks, h, _, _, _, _, _, _, _ => by cases h
  | d + 1, t, ks, h, i, hi, xs, ys, hx, hy, w => by
    have hdesc := Sx.descOf hi
    unfold kdsOf at h
    rw [hdesc] at h
    have one : ∀ {k : KD}, ks = [k] → ∃ u v, xs = [u] ∧ ys = [v] ∧ okK k u = true ∧ okK k v = true := by
      intro k hk
      subst hk
      match xs, ys, hx, hy with
      | [u], [v], hx, hy => simp [allK] at hx hy; exact ⟨u, v, rfl, rfl, hx, hy⟩
      | [], _, hx, _ => simp [allK] at hx
      | _ :: _ :: _, _, hx, _ => simp [allK] at hx
      | [_], [], _, hy => simp [allK] at hy
      | [_], _ :: _ :: _, _, hy => simp [allK] at hy
    cases hd : i.d with
    | bool =>
      rw [hd] at h hdesc
      obtain ⟨u, v, rfl, rfl, hu, hv⟩ := one (Option.some.inj h).symm
      obtain ⟨x, h1, h2⟩ := Sx.und0 hdesc
      obtain rfl := tdOf_bool h2
      cases u <;> simp only [okK, Bool.false_eq_true] at hu
      cases v <;> simp only [okK, Bool.false_eq_true] at hv
      rename_i a b
      have := run_equalIn_bool' (P := S.P) w (m + d) t a b h1
      simp only [valT, isAggD, cond_false, List.headD_cons, cellsEq, cellEq]
      rw [show m + (d + 1) = m + d + 1 from rfl, this]
      cases hab : (a == b) <;> simp
    | int k =>
      rw [hd] at h hdesc
      obtain ⟨u, v, rfl, rfl, hu, hv⟩ := one (Option.some.inj h).symm
      cases u <;> simp only [okK, Bool.false_eq_true] at hu
      cases v <;> simp only [okK, Bool.false_eq_true] at hv
      rename_i k1 a k2 b
      obtain rfl := sameK_eq hu
      obtain rfl := sameK_eq hv
      have := run_equalIn_int (P := S.P) w (m + d) t k k a b (Sx.uint hdesc)
      simp only [valT, isAggD, cond_false, List.headD_cons, cellsEq, cellEq]
      rw [show m + (d + 1) = m + d + 1 from rfl, this]
      cases hab : (a == b) <;> simp
    | string =>
      rw [hd] at h hdesc
      obtain ⟨u, v, rfl, rfl, hu, hv⟩ := one (Option.some.inj h).symm
      cases u <;> simp only [okK, Bool.false_eq_true] at hu
      cases v <;> simp only [okK, Bool.false_eq_true] at hv
      rename_i a b
      have := run_equalIn_string (P := S.P) w (m + d) t a b (Sx.ustr hdesc)
      simp only [valT, isAggD, cond_false, List.headD_cons, cellsEq, cellEq]
      rw [show m + (d + 1) = m + d + 1 from rfl, this]
      unfold strEq
      cases hab : (a.toList == b.toList) <;> simp
    | slice e => rw [hd] at h; cases h
    | other => rw [hd] at h; cases h
    | array n e =>
      rw [hd] at h hdesc
      simp only at h
      split at h
      · rename_i ke hke
        obtain rfl := Option.some.inj h
        obtain ⟨j, hj⟩ := sz_of_kds d e ke (szC_get hke).1
        obtain ⟨hjs, hj1⟩ := one_of hke hj
        obtain ⟨q, hq0, hq1, hq2, hq3⟩ := Sx.info hj
        have hc : S.P.cellsOf e = ke.length := by simp [Program.cellsOf, hq0, hq2, hjs]
        have h2 := run_equalIn_array (P := S.P) (w := w) (m + d) xs.toArray ys.toArray (Sx.uarr hdesc) hq0
        have h3 := items_run (m := m) (d := d) hj hjs hj1 (fun xs ys h1 h2 w => eq_run m d e ke (szC_get hke).1 j hj xs ys h1 h2 w) xs ys w n 0 (by rw [Nat.zero_add]; exact hx) (by rw [Nat.zero_add]; exact hy)
        simp only [valT, isAggD, cond_true]
        rw [show m + (d + 1) = m + d + 1 from rfl, h2, hc, List.range_eq_range', h3]
        simp
      · cases h
    | struct fs =>
      rw [hd] at h hdesc
      simp only at h
      cases hm : memN t S.cmp with
      | false => rw [hm] at h; cases h
      | true =>
        rw [hm] at h
        simp only [cond_true] at h
        obtain ⟨hst, _, hnm⟩ := cmp_ok hm
        obtain ⟨l, hl1, hl2⟩ := Sx.ustruct hdesc
        subst hl2
        have hfo : S.P.fieldsOf t = l := by simp [Program.fieldsOf, hl1]
        have h2 := run_equalIn_struct (P := S.P) w (m + d) t xs.toArray ys.toArray (by rw [hfo]; exact hl1) hst
        rw [hfo] at h2 hnm
        have h3 := fields_run (m := m) (d := d) (fun t ks h i hi xs ys h1 h2 w => eq_run m d t ks (szC_get h).1 i hi xs ys h1 h2 w) (fun t ks i h hi => one_of h hi) (fun t ks h => sz_of_kds d t ks (szC_get h).1) xs ys w l.toList 0 ks hnm h (Nat.zero_le _) (Nat.zero_le _) hx hy
        simp only [valT, isAggD, cond_true]
        rw [show m + (d + 1) = m + d + 1 from rfl, h2, h3]
        simp
/-- '==' and '!=' of two structs, of two arrays. -/
theorem SxRun.eq {t : Nat} {x y : Operand} {us vs : Array Value} {A : Value → Prop} (d : Nat) (hd : Nat.ble d 10000 = true) {ks : List KD} (hk : kdsOf S d t = some ks) {i : TInf} (hi : tl S.T t = some i) (hg : S.P.eqGuardType S.P.depth t = false) (ha : isAggD i.d = true) (hu : allK ks us.toList = true) (hv : allK ks vs.toList = true)
    (h : A (.bool (cellsEq us.toList vs.toList))) : SxRun S.P (do eqGuard .eql t x y (.agg us) (.agg vs); binOp .eql t (.agg us) (.agg vs)) A := by
  refine ⟨_, fun w => ?_, h⟩
  have hr := eq_run (S := S) (10000 - d) d t ks hk i hi us.toList vs.toList hu hv w
  rw [show 10000 - d + d = 10000 by have := Nat.le_of_ble_eq_true hd; omega] at hr
  simp only [valT, ha, cond_true, Array.toArray_toList] at hr
  rw [Sem.run_bind, run_eqGuard_agg w .eql t x y us vs hg, Result.andThen_ok, run_eql_struct, hr, Result.andThen_ok]
theorem SxRun.ne {t : Nat} {x y : Operand} {us vs : Array Value} {A : Value → Prop} (d : Nat) (hd : Nat.ble d 10000 = true) {ks : List KD} (hk : kdsOf S d t = some ks) {i : TInf} (hi : tl S.T t = some i) (hg : S.P.eqGuardType S.P.depth t = false) (ha : isAggD i.d = true) (hu : allK ks us.toList = true) (hv : allK ks vs.toList = true)
    (h : A (.bool (!cellsEq us.toList vs.toList))) : SxRun S.P (do eqGuard .neq t x y (.agg us) (.agg vs); binOp .neq t (.agg us) (.agg vs)) A := by
  refine ⟨_, fun w => ?_, h⟩
  have hr := eq_run (S := S) (10000 - d) d t ks hk i hi us.toList vs.toList hu hv w
  rw [show 10000 - d + d = 10000 by have := Nat.le_of_ble_eq_true hd; omega] at hr
  simp only [valT, ha, cond_true, Array.toArray_toList] at hr
  rw [Sem.run_bind, run_eqGuard_agg w .neq t x y us vs hg, Result.andThen_ok, run_neq_struct, hr, Result.andThen_ok]
end
end Go.Proofs.Ytdififdnnpgjoaa
/- A symbolic walk: pointers compared; what is left of memory when a call's own has been used up. No program is named here. -/
namespace Go.Proofs.Ytdififdnnpgjoaa
open Go.RowKit

section
variable {P : Program} {t e : Nat} {x y : Operand} {A : Value → Prop}
theorem SxRun.pEqNil (h : P.underlying t = some (.pointer e)) {a : Option Addr} (hA : A (.bool a.isNone)) : SxRun P (do eqGuard .eql t x y (.pointer a) (.pointer none); binOp .eql t (.pointer a) (.pointer none)) A :=
  ⟨_, fun w => by have h2 := run_eql_pointer_nil (P := P) w t a (by simp [Program.pointee, h]); simp only [eqGuard]; simpa using h2, hA⟩
theorem SxRun.pNeNil (h : P.underlying t = some (.pointer e)) {a : Option Addr} (hA : A (.bool !a.isNone)) : SxRun P (do eqGuard .neq t x y (.pointer a) (.pointer none); binOp .neq t (.pointer a) (.pointer none)) A :=
  ⟨_, fun w => by have h2 := run_neq_pointer_nil (P := P) w t a (by simp [Program.pointee, h]); simp only [eqGuard]; simpa using h2, hA⟩
theorem SxRun.sEqNil (h : P.underlying t = some (.slice e)) {a : Option Addr} {n c : Nat} (hA : A (.bool a.isNone)) : SxRun P (do eqGuard .eql t x y (.slice a n c) (.slice none 0 0); binOp .eql t (.slice a n c) (.slice none 0 0)) A := by
  refine ⟨_, fun w => ?_, hA⟩
  have h2 := Go.run_equal_slice_nil w t e a n c h
  simp only [eqGuard, binOp]
  simp [h2]
theorem SxRun.sNeNil (h : P.underlying t = some (.slice e)) {a : Option Addr} {n c : Nat} (hA : A (.bool !a.isNone)) : SxRun P (do eqGuard .neq t x y (.slice a n c) (.slice none 0 0); binOp .neq t (.slice a n c) (.slice none 0 0)) A := by
  refine ⟨_, fun w => ?_, hA⟩
  have h2 := Go.run_equal_slice_nil w t e a n c h
  simp only [eqGuard, binOp]
  simp [h2]
end
section
variable {W : World} {M : List Nat} {H : Hp} {w w' : World}
/-- What was known at the start, still. -/
theorem Sat.back {H0 : Hp} (h0 : Sat W [] H0 W) (ht : Touch [] W w) (hb : Below W.heap.size w w') : Sat W [] H0 w' := h0.below (ht.below.trans hb)
theorem Sat.start {H0 : Hp} (h0 : Sat W [] H0 W) (ht : Touch [] W w) : Sat W [] H0 w := h0.below ht.below
theorem setCell_grown (w : World) (g j : Nat) (u : Value) : w.grownBy (w.setCell ⟨g, j, none⟩ u) (some g) := by
  refine ⟨rfl, rfl, rfl, by simp, fun k _ hk => ?_⟩
  exact heap_setCell_other w ⟨g, j, none⟩ k u fun e => hk (by rw [show g = k from e.symm])
end
/-- All that is known. -/
def allI (H : Hp) : List Nat := List.range H.length
theorem pickH_from : ∀ (H : Hp) (n k : Nat), n + k = H.length → pickH H (List.range' n k) = some (H.drop n)
  | H, n, 0, h => by rw [List.range'_zero, pickH, List.drop_of_length_le (by omega)]
  | H, n, k + 1, h => by
    have hn : n < H.length := by omega
    rw [List.range'_succ, pickH, List.getElem?_eq_getElem hn]
    simp only [pickH_from H (n + 1) k (by omega)]
    rw [List.drop_eq_getElem_cons hn]
theorem pickH_all (H : Hp) : pickH H (allI H) = some H := by
  have h := pickH_from H 0 H.length (by omega)
  rwa [← List.range_eq_range', List.drop_zero] at h
theorem nodupB_from : ∀ (n k : Nat), nodupB (List.range' n k) = true
  | n, 0 => rfl
  | n, k + 1 => by
    rw [List.range'_succ, nodupB, nodupB_from (n + 1) k, Bool.and_true]
    simp only [Bool.not_eq_true', List.any_eq_false]
    intro x hx
    rw [List.mem_range'_1] at hx
    simp
    omega
theorem nodupB_all (H : Hp) : nodupB (allI H) = true := by
  have h := nodupB_from 0 H.length
  rwa [← List.range_eq_range'] at h
theorem own_base {w : World} {B e k n cap : Nat} {ao : Option Addr} {cs : List Value} (h : w.ownsRow 0 e k (.slice ao n cap) n cs) (hb : ∀ g, ao.map (·.block) = some g → B ≤ g) : w.ownsRow B e k (.slice ao n cap) n cs := by
  refine ⟨h.1, ?_⟩
  rcases h.2 with h2 | ⟨g, c, cur, hv, _, h3⟩
  · exact .inl h2
  · refine .inr ⟨g, c, cur, hv, hb g ?_, h3⟩
    simp only [Value.slice.injEq] at hv
    rw [hv.1]; rfl
section
variable {S : Sx} {W : World} {M : List Nat} {N : Nat} {H : Hp} {w w' : World}
/-- A slice without elements is a row of its own. -/
theorem Sat.nilRow (e k : Nat) (hs : Sat W M H w) : Sat W M (.row none 0 0 e k [] :: H) w :=
  hs.cons ⟨rfl, rfl, rfl, Nat.le_refl _, fun _ _ _ => rfl⟩ (World.ownsRow_nil w 0 e k) (fun g h => by simp [Ent.uses] at h)
/-- A row that a call has made. -/
structure NewRow (w w' : World) (ao : Option Addr) (n cap e k : Nat) (cs : List Value) : Prop where
  owns : w'.ownsRow w.heap.size e k (.slice ao n cap) n cs
  below : Below w.heap.size w w'
theorem Sat.newRow (hs : Sat W [] H w) (p : Nat) {ao : Option Addr} {n cap e k : Nat} {cs : List Value} (hp : H[p]? = some (.row ao n cap e k cs)) : NewRow W w ao n cap e k cs :=
  ⟨own_base (hs.row p hp) fun g hg => (hs.own p _ hp g hg).resolve_right (by simp), hs.touch.below⟩
theorem NewRow.nil {w w' : World} (e k : Nat) (hb : Below w.heap.size w w') : NewRow w w' none 0 0 e k [] := ⟨World.ownsRow_nil w' _ e k, hb⟩
theorem Sat.addNew (hs : Sat W M H w) {ao : Option Addr} {n cap e k : Nat} {cs : List Value} (h : NewRow w w' ao n cap e k cs) : Sat W M (.row ao n cap e k cs :: H) w' := by
  have h0 : (Ent.row ao n cap e k cs).Holds w' := by
    refine ⟨h.owns.1, ?_⟩
    rcases h.owns.2 with h2 | ⟨g, c, cur, hv, _, h3⟩
    · exact .inl h2
    · exact .inr ⟨g, c, cur, hv, Nat.zero_le _, h3⟩
  refine hs.cons (Below.toGrown h.below) h0 fun g hg => ?_
  refine (World.ownsRow.lt h.owns g ?_).1
  cases ao with
  | none => cases hg
  | some a => simpa [Ent.uses, Value.ownBlock] using hg
theorem SxCall.newRow {f : Nat} {args : Array Value} {A : Value → Hp → Prop} {v : Option Addr → Nat → Value} {n e k : Nat} {cs : List Value}
    (hc : ∀ w, Sat W M H w → Calls S.P f args w fun en w' => ∃ ao cap, en = .returned (v ao cap) ∧ NewRow w w' ao n cap e k cs) (h : ∀ ao cap, A (v ao cap) (.row ao n cap e k cs :: H)) : SxCall S W M f args H A :=
  ⟨fun w hs => (hc w hs).mono fun _ _ he => by
    obtain ⟨ao, cap, h1, h2⟩ := he
    exact ⟨_, _, h1, hs.addNew h2, h ao cap⟩⟩
theorem SxCode.nil {c : Code} {Q : Exit → Fr → Hp → Prop} {F : Fr} (e k : Nat) (h : SxCode S W M N c Q F (.row none 0 0 e k [] :: H)) : SxCode S W M N c Q F H := by
  cases h with | mk h => exact ⟨fun a w ha hs => h a w ha (hs.nilRow e k)⟩
end
end Go.Proofs.Ytdififdnnpgjoaa
/- A symbolic walk: calls that leave memory known anew. No program is named here. -/
namespace Go.Proofs.Ytdififdnnpgjoaa
open Go.RowKit

theorem SxIf.strT {A B : Prop} {a b : ByteArray} (h : a = b) (hA : A) : SxIf (strEq a b) A B := SxIf.str (fun _ => hA) (fun h' => absurd h h')
theorem SxIf.strF {A B : Prop} {a b : ByteArray} (h : a ≠ b) (hB : B) : SxIf (strEq a b) A B := SxIf.str (fun h' => absurd h' h) (fun _ => hB)
section
variable {S : Sx} {W : World} {M : List Nat} {H : Hp} {f : Nat} {args : Array Value} {A : Value → Hp → Prop}
theorem SxCall.sat {v : Value} (H' : Hp) (hc : ∀ w, Sat W M H w → Calls S.P f args w fun e w' => e = .returned v ∧ Sat W M H' w') (h : A v H') : SxCall S W M f args H A :=
  SxCall.at hc fun _ _ _ _ hr => ⟨v, H', hr.1, hr.2, h⟩
theorem SxBI.real {P : Program} {tys : List TypeId} {k : FloatKind} {a b : Nat} {A : Value → Prop} (h : A (.float k a)) : SxBI P .real tys [.complex k a b] A := ⟨_, fun ty cst w => rfl, h⟩
theorem SxBI.imag {P : Program} {tys : List TypeId} {k : FloatKind} {a b : Nat} {A : Value → Prop} (h : A (.float k b)) : SxBI P .imag tys [.complex k a b] A := ⟨_, fun ty cst w => rfl, h⟩
theorem SxBI.complex {P : Program} {tys : List TypeId} {k : FloatKind} {a b : Nat} {A : Value → Prop} (h : A (.complex k a b)) : SxBI P .complex tys [.float k a, .float k b] A := ⟨_, fun ty cst w => by cases k <;> rfl, h⟩
theorem Sat.tail {e : Ent} {w : World} (hs : Sat W M (e :: H) w) : Sat W M H w :=
  ⟨hs.touch, fun i x h => hs.holds (i + 1) x h, fun i x h => hs.own (i + 1) x h, fun i j a b hij h k => hs.sep (i + 1) (j + 1) a b (by omega) h k⟩
end
/-- A jump to a label of the scope. -/
inductive SxJump {σ : Type} (slots : List Nat) (lab : σ → Nat) (vals : σ → List Value) (hp : σ → Hp) (ok : σ → Prop) (μ : σ → Nat) (m : Option Nat) (l : Nat) (F : Fr) (H : Hp) : Prop
  | mk (s : σ) (ks : List Nat) (hl : lab s = l) (hv : looks F slots = some (vals s)) (hk : pickH H ks = some (hp s)) (hn : nodupB ks = true) (ho : ok s) (hm : ∀ b, m = some b → μ s < b)
def scopeQ {σ : Type} (slots : List Nat) (lab : σ → Nat) (vals : σ → List Value) (hp : σ → Hp) (ok : σ → Prop) (μ : σ → Nat) (m : Option Nat) (Q : Exit → Fr → Hp → Prop) : Exit → Fr → Hp → Prop := fun e F' H' => match e with
  | .goto l => SxJump slots lab vals hp ok μ m l F' H'
  | e => Q e F' H'
section
variable {S : Sx} {W : World} {M : List Nat} {N : Nat} {Q : Exit → Fr → Hp → Prop} {F : Fr} {H : Hp}
theorem SxCode.scope {σ : Type} {c : Code} (slots wr : List Nat) (lab : σ → Nat) (vals : σ → List Value) (hp : σ → Hp) (ok : σ → Prop) (μ : σ → Nat) (hwr : (writes c).all (fun t => memN t wr) = true)
    (first : sx S W M N c (scopeQ slots lab vals hp ok μ none Q) F H)
    (pass : ∀ s, ok s → ∃ rest, findLabel c (lab s) = some rest ∧ (writes rest).all (fun t => memN t (writes c)) = true ∧ sx S W M N rest (scopeQ slots lab vals hp ok μ (some (μ s)) Q) (setF slots (vals s) (forget wr F)) (hp s)) : SxCode S W M N (.scope c) Q F H := by
  have hsub : ∀ t ∈ writes c, t ∈ wr := fun t ht => memN_mem (List.all_eq_true.1 hwr t ht)
  refine ⟨fun a w ha hs => ?_⟩
  have agree : ∀ s a', Agree N F a → Same wr a a' → a'.tmps.size = N → a'.defers = [] → (∀ (i : Nat) t v, slots[i]? = some t → (vals s)[i]? = some v → a'.tmps.getD t undef = v) → Agree N (setF slots (vals s) (forget wr F)) a' := by
    intro s a' ha hsm hsz hdf hsl
    refine ⟨hsz, hdf, fun t v hl => ?_⟩
    rcases look_setF _ _ _ t v hl with ⟨i, h1, h2⟩ | h1
    · exact hsl i t v h1 h2
    · obtain ⟨h2, h3⟩ := look_forget F wr t v h1
      rw [hsm t h2]
      exact ha.slots t v h3
  have key : ∀ (n : Nat) (a1 : Act) (w1 : World) (s : σ), μ s = n → ok s → Agree N (setF slots (vals s) (forget wr F)) a1 → Sat W M (hp s) w1 → Same (writes c) a a1 → ∀ (b : Frame) (k : List Item) (cs : List Frame),
      ∃ rest, gotoIn (lab s) (.inScope c :: k) = some (.code rest :: .inScope c :: k) ∧ ∃ e a' w', Lift W M N Q (writes (.scope c)) a e a' w' ∧ Arrives S.P (lone (b.at a1 (.code rest :: .inScope c :: k)) cs w1) b k cs e a' w' := by
    intro n
    induction n using Nat.strongRecOn with
    | _ n ih =>
      intro a1 w1 s hn ho ha1 hs1 hsm1 b k cs
      obtain ⟨rest, hf, hwrr, hr⟩ := pass s ho
      have hsub2 : ∀ t ∈ writes rest, t ∈ writes c := fun t ht => memN_mem (List.all_eq_true.1 hwrr t ht)
      have hg : gotoIn (lab s) (.inScope c :: k) = some (.code rest :: .inScope c :: k) := by simp [gotoIn, hf]
      refine ⟨rest, hg, ?_⟩
      obtain ⟨e, a2, w2, ⟨F2, H2, hq, ha2, hs2, hsm2⟩, harr⟩ := sx_sound rest _ _ _ hr a1 w1 ha1 hs1 b (.inScope c :: k) cs
      have hsm : Same (writes c) a a2 := hsm1.trans hsm2 (fun _ h => h) hsub2
      cases e with
      | normal => exact ⟨.normal, a2, w2, ⟨F2, H2, hq, ha2, hs2, hsm⟩, Steps.trans harr (.one step_inScope)⟩
      | exit id => exact ⟨.exit id, a2, w2, ⟨F2, H2, hq, ha2, hs2, hsm⟩, fun k' hk => harr k' (by simp [exitTo, hk])⟩
      | goto l' =>
        cases hq with
        | mk s' ks' hl' hv' hk' hn' ho' hm' =>
          have hwrs : Same wr a a2 := hsm.trans (Same.refl [] _) hsub (by simp)
          have ha3 := agree s' a2 ha hwrs ha2.size ha2.defers (fun i t v h1 h2 => ha2.slots t v (looks_get hv' i t v h1 h2))
          obtain ⟨rest', hg', e3, a3, w3, hq3, harr3⟩ := ih (μ s') (hn ▸ hm' _ rfl) a2 w2 s' rfl ho' ha3 (hs2.pick hk' hn') hsm b k cs
          rw [hl'] at hg'
          exact ⟨e3, a3, w3, hq3, .of_steps (harr _ hg') harr3⟩
      | ret => exact ⟨_, a2, w2, ⟨F2, H2, hq, ha2, hs2, hsm⟩, harr⟩
      | panic ch => exact ⟨_, a2, w2, ⟨F2, H2, hq, ha2, hs2, hsm⟩, harr⟩
      | outgrown => exact ⟨_, a2, w2, ⟨F2, H2, hq, ha2, hs2, hsm⟩, harr⟩
  intro b k cs
  obtain ⟨e, a1, w1, ⟨F1, H1, hq, ha1, hs1, hsm⟩, harr⟩ := sx_sound c _ _ _ first a w ha hs b (.inScope c :: k) cs
  cases e with
  | normal => exact ⟨.normal, a1, w1, ⟨F1, H1, hq, ha1, hs1, hsm⟩, .head step_scope (Steps.trans harr (.one step_inScope))⟩
  | exit id => exact ⟨.exit id, a1, w1, ⟨F1, H1, hq, ha1, hs1, hsm⟩, fun k' hk => .head step_scope (harr k' (by simp [exitTo, hk]))⟩
  | goto l' =>
    cases hq with
    | mk s' ks' hl' hv' hk' hn' ho' hm' =>
      have hwrs : Same wr a a1 := hsm.trans (Same.refl [] _) hsub (by simp)
      have ha3 := agree s' a1 ha hwrs ha1.size ha1.defers (fun i t v h1 h2 => ha1.slots t v (looks_get hv' i t v h1 h2))
      obtain ⟨rest', hg', e2, a2, w2, hq2, harr2⟩ := key _ a1 w1 s' rfl ho' ha3 (hs1.pick hk' hn') hsm b k cs
      rw [hl'] at hg'
      exact ⟨e2, a2, w2, hq2, .of_steps (.head step_scope (harr _ hg')) harr2⟩
  | ret => exact ⟨_, a1, w1, ⟨F1, H1, hq, ha1, hs1, hsm⟩, .of_steps (.one step_scope) harr⟩
  | panic ch => exact ⟨_, a1, w1, ⟨F1, H1, hq, ha1, hs1, hsm⟩, .of_steps (.one step_scope) harr⟩
  | outgrown => exact ⟨_, a1, w1, ⟨F1, H1, hq, ha1, hs1, hsm⟩, .of_steps (.one step_scope) harr⟩
theorem sx_goto {l : Nat} (h : Q (.goto l) F H) : sx S W M N (.goto l) Q F H := by unfold sx; exact h
theorem seqQ_g {y : Code} {l : Nat} (h : Q (.goto l) F H) : seqQ S W M N y Q (.goto l) F H := by unfold seqQ; exact h
theorem blockQ_g {id l : Nat} (h : Q (.goto l) F H) : blockQ id Q (.goto l) F H := by unfold blockQ; exact h
section
variable {σ : Type} {slots : List Nat} {lab : σ → Nat} {vals : σ → List Value} {hp : σ → Hp} {ok : σ → Prop} {μ : σ → Nat} {m : Nat} {mo : Option Nat}
theorem loopQ_g {l : Nat} (h : Q (.goto l) F H) : loopQ slots vals hp ok μ m Q (.goto l) F H := by unfold loopQ; exact h
theorem scopeQ_n (h : Q .normal F H) : scopeQ slots lab vals hp ok μ mo Q .normal F H := h
theorem scopeQ_e {i : Nat} (h : Q (.exit i) F H) : scopeQ slots lab vals hp ok μ mo Q (.exit i) F H := h
theorem scopeQ_r (h : Q .ret F H) : scopeQ slots lab vals hp ok μ mo Q .ret F H := h
theorem scopeQ_g {l : Nat} (h : SxJump slots lab vals hp ok μ mo l F H) : scopeQ slots lab vals hp ok μ mo Q (.goto l) F H := h
end
end
attribute [irreducible] scopeQ
/-- The parts of a literal in the order in which they lie: laid in one go. -/
def fastC (place : Nat → Option (Nat × Nat)) : Nat → List Value → List (Nat × List Value) → Option (List Value)
  | _, cs, [] => some cs
  | pos, cs, (i, vs) :: r => match place i with
    | some (off, size) => bif Nat.ble pos off && (Nat.beq vs.length size && Nat.ble (off - pos + size) cs.length) then
        (match fastC place (off + size) (cs.drop (off - pos + size)) r with
        | some rest => some (cs.take (off - pos) ++ (vs ++ rest))
        | none => none) else none
    | none => none
theorem fastC_ok {place : Nat → Option (Nat × Nat)} : ∀ (ps : List (Nat × List Value)) (pre cs : List Value) (pos : Nat) (cs' : List Value), pre.length = pos → fastC place pos cs ps = some cs' → fillP place (pre ++ cs) ps ∧ fillC place (pre ++ cs) ps = some (pre ++ cs')
  | [], pre, cs, pos, cs', _, h => by
    simp only [fastC, Option.some.injEq] at h
    subst h
    exact ⟨trivial, rfl⟩
  | (i, vs) :: r, pre, cs, pos, cs', hp, h => by
    unfold fastC at h
    split at h
    · rename_i off size hpl
      cases hb : (Nat.ble pos off && (Nat.beq vs.length size && Nat.ble (off - pos + size) cs.length)) with
      | false => rw [hb] at h; cases h
      | true =>
        rw [hb] at h
        simp only [Bool.and_eq_true] at hb
        obtain ⟨h1, h2, h3⟩ := hb
        have h1 := Nat.le_of_ble_eq_true h1
        have h2 := Nat.eq_of_beq_eq_true h2
        have h3 := Nat.le_of_ble_eq_true h3
        simp only [cond_true] at h
        split at h
        · rename_i rest hr
          simp only [Option.some.injEq] at h
          subst h
          have hsp : splice off vs (pre ++ cs) = (pre ++ cs.take (off - pos) ++ vs) ++ cs.drop (off - pos + size) := by
            have e1 : (pre ++ cs).take off = pre ++ cs.take (off - pos) := by
              rw [List.take_append, List.take_of_length_le (by omega), hp]
            have e2 : (pre ++ cs).drop (off + vs.length) = cs.drop (off - pos + size) := by
              rw [List.drop_append, List.drop_eq_nil_of_le (by omega), List.nil_append]
              congr 1
              omega
            unfold splice
            rw [e1, e2]
          obtain ⟨h4, h5⟩ := fastC_ok r (pre ++ cs.take (off - pos) ++ vs) (cs.drop (off - pos + size)) (off + size) rest (by
            rw [List.length_append, List.length_append, List.length_take]; omega) hr
          unfold fillP fillC
          rw [hpl]
          dsimp only
          rw [hsp]
          refine ⟨⟨⟨h2, by rw [List.length_append]; omega⟩, h4⟩, ?_⟩
          rw [h5]
          simp only [List.append_assoc]
        · cases h
    · cases h
theorem SxFill.fast {place : Nat → Option (Nat × Nat)} {cs : List Value} {ps : List (Nat × List Value)} {A : List Value → Prop} {cs' : List Value} (hc : fastC place 0 cs ps = some cs') (h' : A cs') : SxFill place cs ps A :=
  have h := fastC_ok ps [] cs 0 cs' rfl hc
  ⟨h.1, h.2, h'⟩
end Go.Proofs.Ytdififdnnpgjoaa
/- A symbolic walk: the steps that need nobody, as one word. No program is named here. -/
namespace Go.Proofs.Ytdififdnnpgjoaa
open Go.RowKit

inductive SxLeft (p : Prop) : Prop
  | mk (h : p)
theorem SxLeft.out {p : Prop} (h : SxLeft p) : p := by cases h with | mk h => exact h
/-- Of a goal, what is left of it behind the steps that need nobody. -/
theorem sx_use {G' G : Prop} (h : G') (r : SxLeft G' → G := by (intro h; (first | refine sx_seq ?_ | refine ops_run rfl (ops_nil ?_) | refine seqQ_n ?_ | refine blockQ_n ?_ | refine sx_block ?_ | refine sx_region rfl ?_ | refine sx_cond rfl ?_ | refine sx_exit ?_ | refine sx_skip ?_ | refine sx_ret ?_ | refine sx_loop ?_ | refine sx_draw ?_ | refine sx_label ?_ | refine seqQ_e ?_ | refine seqQ_r ?_ | refine blockQ_x ?_ | refine blockQ_e rfl ?_ | refine blockQ_r ?_ | refine loopQ_n ?_ | refine loopQ_e ?_ | refine loopQ_r ?_ | refine finQ_n rfl ?_ | refine finQ_r rfl ?_ | refine res_tmp rfl ?_ | refine res_nil ?_ | refine res_agg rfl rfl rfl ?_ | refine res_one rfl rfl rfl ?_ | (refine ops_run rfl (ops_op rfl ?_); conv => whnf) | refine ops_run rfl (ops_guard rfl rfl rfl rfl rfl ?_) | refine any_go rfl rfl (any_done rfl ?_) | (refine any_go rfl rfl (any_st rfl rfl ?_); conv => whnf) | (refine any_go rfl rfl (any_on rfl rfl rfl rfl ?_); conv => whnf) | refine any_go rfl rfl (any_gd rfl ?_) | ((fail_if_success with_reducible refine SxIf.dec (fun _ => ?_) (fun _ => ?_)); refine SxIf.tt ?_) | ((fail_if_success with_reducible refine SxIf.dec (fun _ => ?_) (fun _ => ?_)); refine SxIf.ff ?_) | refine SxRng.i64 (by omega) (by omega) ?_ | refine SxNz.mk (by omega) ?_ | refine SxQ.rem (by omega) (by omega) ?_ | refine SxQ.quo (by omega) (by omega) ?_ | refine SxSh.ofn ?_ | refine SxIf.yes (by omega) ?_ | refine SxIf.no (by omega) ?_ | ((fail_if_success with_reducible refine SxIf.dec (fun _ => ?_) (fun _ => ?_)); first | refine SxIf.eqT (by omega) ?_ | refine SxIf.eqF (by omega) ?_ | refine SxIf.neT (by omega) ?_ | refine SxIf.neF (by omega) ?_) | refine SxLd.blk 0 rfl rfl ?_ | refine SxLd.blk 1 rfl rfl ?_ | refine SxLd.blk 2 rfl rfl ?_ | refine SxLd.blk 3 rfl rfl ?_ | refine SxLd.blk 4 rfl rfl ?_ | refine SxLd.blk 5 rfl rfl ?_ | refine SxLd.blk 6 rfl rfl ?_ | refine SxLdN.blk 0 rfl rfl rfl ?_ | refine SxLdN.blk 1 rfl rfl rfl ?_ | refine SxLdN.blk 2 rfl rfl rfl ?_ | refine SxLdN.blk 3 rfl rfl rfl ?_ | refine SxLdN.blk 4 rfl rfl rfl ?_ | refine SxLdN.blk 5 rfl rfl rfl ?_ | refine SxNth.mk rfl ?_ | refine SxP.mk rfl ?_ | refine SxFill.fast rfl ?_ | refine SxFill.ok rfl rfl ?_ | refine SxP.mk ⟨rfl, by decide⟩ ?_ | refine SxP.mk ⟨by decide, rfl, by decide⟩ ?_ | refine SxSt.blk 0 rfl rfl rfl rfl ?_ | refine SxSt.blk 1 rfl rfl rfl rfl ?_ | refine SxSt.blk 2 rfl rfl rfl rfl ?_ | refine SxSt.blk 3 rfl rfl rfl rfl ?_ | refine SxSt.blk 4 rfl rfl rfl rfl ?_ | refine SxSt.blk 5 rfl rfl rfl rfl ?_ | refine SxStable.mk [] rfl rfl ?_ | refine SxStable.mk [0] rfl rfl ?_ | refine SxStable.mk [1] rfl rfl ?_ | refine SxStable.mk [0, 1] rfl rfl ?_ | refine SxStable.mk [1, 2] rfl rfl ?_ | refine SxStable.mk [2, 3] rfl rfl ?_ | refine SxStable.mk [0, 1, 2] rfl rfl ?_ | refine SxStable.mk [1, 2, 3] rfl rfl ?_ | refine SxStable.mk [2, 3, 4] rfl rfl ?_ | refine SxStable.mk [0, 1, 2, 3] rfl rfl ?_ | refine SxStable.mk [1, 2, 3, 4] rfl rfl ?_ | refine SxStable.mk [2, 3, 4, 5] rfl rfl ?_ | refine SxStable.mk (allI _) (pickH_all _) (nodupB_all _) ?_ | refine sx_goto ?_ | refine meetQ_n ?_ | refine meetQ_e ?_ | refine meetQ_r ?_ | refine meetQ_g ?_ | refine seqQ_g ?_ | refine blockQ_g ?_ | refine loopQ_g ?_ | refine scopeQ_n ?_ | refine scopeQ_e ?_ | refine scopeQ_r ?_ | refine scopeQ_g ?_ | refine sx_scope ?_ | refine SxBI.real ?_ | refine SxBI.imag ?_ | refine SxBI.complex ?_); (repeat (first | refine sx_seq ?_ | refine ops_run rfl (ops_nil ?_) | refine seqQ_n ?_ | refine blockQ_n ?_ | refine sx_block ?_ | refine sx_region rfl ?_ | refine sx_cond rfl ?_ | refine sx_exit ?_ | refine sx_skip ?_ | refine sx_ret ?_ | refine sx_loop ?_ | refine sx_draw ?_ | refine sx_label ?_ | refine seqQ_e ?_ | refine seqQ_r ?_ | refine blockQ_x ?_ | refine blockQ_e rfl ?_ | refine blockQ_r ?_ | refine loopQ_n ?_ | refine loopQ_e ?_ | refine loopQ_r ?_ | refine finQ_n rfl ?_ | refine finQ_r rfl ?_ | refine res_tmp rfl ?_ | refine res_nil ?_ | refine res_agg rfl rfl rfl ?_ | refine res_one rfl rfl rfl ?_ | (refine ops_run rfl (ops_op rfl ?_); conv => whnf) | refine ops_run rfl (ops_guard rfl rfl rfl rfl rfl ?_) | refine any_go rfl rfl (any_done rfl ?_) | (refine any_go rfl rfl (any_st rfl rfl ?_); conv => whnf) | (refine any_go rfl rfl (any_on rfl rfl rfl rfl ?_); conv => whnf) | refine any_go rfl rfl (any_gd rfl ?_) | ((fail_if_success with_reducible refine SxIf.dec (fun _ => ?_) (fun _ => ?_)); refine SxIf.tt ?_) | ((fail_if_success with_reducible refine SxIf.dec (fun _ => ?_) (fun _ => ?_)); refine SxIf.ff ?_) | refine SxRng.i64 (by omega) (by omega) ?_ | refine SxNz.mk (by omega) ?_ | refine SxQ.rem (by omega) (by omega) ?_ | refine SxQ.quo (by omega) (by omega) ?_ | refine SxSh.ofn ?_ | refine SxIf.yes (by omega) ?_ | refine SxIf.no (by omega) ?_ | ((fail_if_success with_reducible refine SxIf.dec (fun _ => ?_) (fun _ => ?_)); first | refine SxIf.eqT (by omega) ?_ | refine SxIf.eqF (by omega) ?_ | refine SxIf.neT (by omega) ?_ | refine SxIf.neF (by omega) ?_) | refine SxLd.blk 0 rfl rfl ?_ | refine SxLd.blk 1 rfl rfl ?_ | refine SxLd.blk 2 rfl rfl ?_ | refine SxLd.blk 3 rfl rfl ?_ | refine SxLd.blk 4 rfl rfl ?_ | refine SxLd.blk 5 rfl rfl ?_ | refine SxLd.blk 6 rfl rfl ?_ | refine SxLdN.blk 0 rfl rfl rfl ?_ | refine SxLdN.blk 1 rfl rfl rfl ?_ | refine SxLdN.blk 2 rfl rfl rfl ?_ | refine SxLdN.blk 3 rfl rfl rfl ?_ | refine SxLdN.blk 4 rfl rfl rfl ?_ | refine SxLdN.blk 5 rfl rfl rfl ?_ | refine SxNth.mk rfl ?_ | refine SxP.mk rfl ?_ | refine SxFill.fast rfl ?_ | refine SxFill.ok rfl rfl ?_ | refine SxP.mk ⟨rfl, by decide⟩ ?_ | refine SxP.mk ⟨by decide, rfl, by decide⟩ ?_ | refine SxSt.blk 0 rfl rfl rfl rfl ?_ | refine SxSt.blk 1 rfl rfl rfl rfl ?_ | refine SxSt.blk 2 rfl rfl rfl rfl ?_ | refine SxSt.blk 3 rfl rfl rfl rfl ?_ | refine SxSt.blk 4 rfl rfl rfl rfl ?_ | refine SxSt.blk 5 rfl rfl rfl rfl ?_ | refine SxStable.mk [] rfl rfl ?_ | refine SxStable.mk [0] rfl rfl ?_ | refine SxStable.mk [1] rfl rfl ?_ | refine SxStable.mk [0, 1] rfl rfl ?_ | refine SxStable.mk [1, 2] rfl rfl ?_ | refine SxStable.mk [2, 3] rfl rfl ?_ | refine SxStable.mk [0, 1, 2] rfl rfl ?_ | refine SxStable.mk [1, 2, 3] rfl rfl ?_ | refine SxStable.mk [2, 3, 4] rfl rfl ?_ | refine SxStable.mk [0, 1, 2, 3] rfl rfl ?_ | refine SxStable.mk [1, 2, 3, 4] rfl rfl ?_ | refine SxStable.mk [2, 3, 4, 5] rfl rfl ?_ | refine SxStable.mk (allI _) (pickH_all _) (nodupB_all _) ?_ | refine sx_goto ?_ | refine meetQ_n ?_ | refine meetQ_e ?_ | refine meetQ_r ?_ | refine meetQ_g ?_ | refine seqQ_g ?_ | refine blockQ_g ?_ | refine loopQ_g ?_ | refine scopeQ_n ?_ | refine scopeQ_e ?_ | refine scopeQ_r ?_ | refine scopeQ_g ?_ | refine sx_scope ?_ | refine SxBI.real ?_ | refine SxBI.imag ?_ | refine SxBI.complex ?_)); exact h.out)) : G := r ⟨h⟩
theorem sx_usej {G' G : Prop} (h : G') (r : SxLeft G' → G := by (intro h; (first | refine sx_seqN rfl ?_ | refine ops_run rfl (ops_nil ?_) | refine seqQ_n ?_ | refine blockQ_n ?_ | refine sx_block ?_ | refine sx_region rfl ?_ | refine sx_cond rfl ?_ | refine sx_exit ?_ | refine sx_skip ?_ | refine sx_ret ?_ | refine sx_loop ?_ | refine sx_draw ?_ | refine sx_label ?_ | refine seqQ_e ?_ | refine seqQ_r ?_ | refine blockQ_x ?_ | refine blockQ_e rfl ?_ | refine blockQ_r ?_ | refine loopQ_n ?_ | refine loopQ_e ?_ | refine loopQ_r ?_ | refine finQ_n rfl ?_ | refine finQ_r rfl ?_ | refine res_tmp rfl ?_ | refine res_nil ?_ | refine res_agg rfl rfl rfl ?_ | refine res_one rfl rfl rfl ?_ | (refine ops_run rfl (ops_op rfl ?_); conv => whnf) | refine ops_run rfl (ops_guard rfl rfl rfl rfl rfl ?_) | refine any_go rfl rfl (any_done rfl ?_) | (refine any_go rfl rfl (any_st rfl rfl ?_); conv => whnf) | (refine any_go rfl rfl (any_on rfl rfl rfl rfl ?_); conv => whnf) | refine any_go rfl rfl (any_gd rfl ?_) | ((fail_if_success with_reducible refine SxIf.dec (fun _ => ?_) (fun _ => ?_)); refine SxIf.tt ?_) | ((fail_if_success with_reducible refine SxIf.dec (fun _ => ?_) (fun _ => ?_)); refine SxIf.ff ?_) | refine SxRng.i64 (by omega) (by omega) ?_ | refine SxNz.mk (by omega) ?_ | refine SxQ.rem (by omega) (by omega) ?_ | refine SxQ.quo (by omega) (by omega) ?_ | refine SxSh.ofn ?_ | refine SxIf.yes (by omega) ?_ | refine SxIf.no (by omega) ?_ | ((fail_if_success with_reducible refine SxIf.dec (fun _ => ?_) (fun _ => ?_)); first | refine SxIf.eqT (by omega) ?_ | refine SxIf.eqF (by omega) ?_ | refine SxIf.neT (by omega) ?_ | refine SxIf.neF (by omega) ?_) | refine SxLd.blk 0 rfl rfl ?_ | refine SxLd.blk 1 rfl rfl ?_ | refine SxLd.blk 2 rfl rfl ?_ | refine SxLd.blk 3 rfl rfl ?_ | refine SxLd.blk 4 rfl rfl ?_ | refine SxLd.blk 5 rfl rfl ?_ | refine SxLd.blk 6 rfl rfl ?_ | refine SxLdN.blk 0 rfl rfl rfl ?_ | refine SxLdN.blk 1 rfl rfl rfl ?_ | refine SxLdN.blk 2 rfl rfl rfl ?_ | refine SxLdN.blk 3 rfl rfl rfl ?_ | refine SxLdN.blk 4 rfl rfl rfl ?_ | refine SxLdN.blk 5 rfl rfl rfl ?_ | refine SxNth.mk rfl ?_ | refine SxP.mk rfl ?_ | refine SxFill.fast rfl ?_ | refine SxFill.ok rfl rfl ?_ | refine SxP.mk ⟨rfl, by decide⟩ ?_ | refine SxP.mk ⟨by decide, rfl, by decide⟩ ?_ | refine SxSt.blk 0 rfl rfl rfl rfl ?_ | refine SxSt.blk 1 rfl rfl rfl rfl ?_ | refine SxSt.blk 2 rfl rfl rfl rfl ?_ | refine SxSt.blk 3 rfl rfl rfl rfl ?_ | refine SxSt.blk 4 rfl rfl rfl rfl ?_ | refine SxSt.blk 5 rfl rfl rfl rfl ?_ | refine SxStable.mk [] rfl rfl ?_ | refine SxStable.mk [0] rfl rfl ?_ | refine SxStable.mk [1] rfl rfl ?_ | refine SxStable.mk [0, 1] rfl rfl ?_ | refine SxStable.mk [1, 2] rfl rfl ?_ | refine SxStable.mk [2, 3] rfl rfl ?_ | refine SxStable.mk [0, 1, 2] rfl rfl ?_ | refine SxStable.mk [1, 2, 3] rfl rfl ?_ | refine SxStable.mk [2, 3, 4] rfl rfl ?_ | refine SxStable.mk [0, 1, 2, 3] rfl rfl ?_ | refine SxStable.mk [1, 2, 3, 4] rfl rfl ?_ | refine SxStable.mk [2, 3, 4, 5] rfl rfl ?_ | refine SxStable.mk (allI _) (pickH_all _) (nodupB_all _) ?_ | refine sx_goto ?_ | refine meetQ_n ?_ | refine meetQ_e ?_ | refine meetQ_r ?_ | refine meetQ_g ?_ | refine seqQ_g ?_ | refine blockQ_g ?_ | refine loopQ_g ?_ | refine scopeQ_n ?_ | refine scopeQ_e ?_ | refine scopeQ_r ?_ | refine scopeQ_g ?_ | refine sx_scope ?_ | refine SxBI.real ?_ | refine SxBI.imag ?_ | refine SxBI.complex ?_); (repeat (first | refine sx_seqN rfl ?_ | refine ops_run rfl (ops_nil ?_) | refine seqQ_n ?_ | refine blockQ_n ?_ | refine sx_block ?_ | refine sx_region rfl ?_ | refine sx_cond rfl ?_ | refine sx_exit ?_ | refine sx_skip ?_ | refine sx_ret ?_ | refine sx_loop ?_ | refine sx_draw ?_ | refine sx_label ?_ | refine seqQ_e ?_ | refine seqQ_r ?_ | refine blockQ_x ?_ | refine blockQ_e rfl ?_ | refine blockQ_r ?_ | refine loopQ_n ?_ | refine loopQ_e ?_ | refine loopQ_r ?_ | refine finQ_n rfl ?_ | refine finQ_r rfl ?_ | refine res_tmp rfl ?_ | refine res_nil ?_ | refine res_agg rfl rfl rfl ?_ | refine res_one rfl rfl rfl ?_ | (refine ops_run rfl (ops_op rfl ?_); conv => whnf) | refine ops_run rfl (ops_guard rfl rfl rfl rfl rfl ?_) | refine any_go rfl rfl (any_done rfl ?_) | (refine any_go rfl rfl (any_st rfl rfl ?_); conv => whnf) | (refine any_go rfl rfl (any_on rfl rfl rfl rfl ?_); conv => whnf) | refine any_go rfl rfl (any_gd rfl ?_) | ((fail_if_success with_reducible refine SxIf.dec (fun _ => ?_) (fun _ => ?_)); refine SxIf.tt ?_) | ((fail_if_success with_reducible refine SxIf.dec (fun _ => ?_) (fun _ => ?_)); refine SxIf.ff ?_) | refine SxRng.i64 (by omega) (by omega) ?_ | refine SxNz.mk (by omega) ?_ | refine SxQ.rem (by omega) (by omega) ?_ | refine SxQ.quo (by omega) (by omega) ?_ | refine SxSh.ofn ?_ | refine SxIf.yes (by omega) ?_ | refine SxIf.no (by omega) ?_ | ((fail_if_success with_reducible refine SxIf.dec (fun _ => ?_) (fun _ => ?_)); first | refine SxIf.eqT (by omega) ?_ | refine SxIf.eqF (by omega) ?_ | refine SxIf.neT (by omega) ?_ | refine SxIf.neF (by omega) ?_) | refine SxLd.blk 0 rfl rfl ?_ | refine SxLd.blk 1 rfl rfl ?_ | refine SxLd.blk 2 rfl rfl ?_ | refine SxLd.blk 3 rfl rfl ?_ | refine SxLd.blk 4 rfl rfl ?_ | refine SxLd.blk 5 rfl rfl ?_ | refine SxLd.blk 6 rfl rfl ?_ | refine SxLdN.blk 0 rfl rfl rfl ?_ | refine SxLdN.blk 1 rfl rfl rfl ?_ | refine SxLdN.blk 2 rfl rfl rfl ?_ | refine SxLdN.blk 3 rfl rfl rfl ?_ | refine SxLdN.blk 4 rfl rfl rfl ?_ | refine SxLdN.blk 5 rfl rfl rfl ?_ | refine SxNth.mk rfl ?_ | refine SxP.mk rfl ?_ | refine SxFill.fast rfl ?_ | refine SxFill.ok rfl rfl ?_ | refine SxP.mk ⟨rfl, by decide⟩ ?_ | refine SxP.mk ⟨by decide, rfl, by decide⟩ ?_ | refine SxSt.blk 0 rfl rfl rfl rfl ?_ | refine SxSt.blk 1 rfl rfl rfl rfl ?_ | refine SxSt.blk 2 rfl rfl rfl rfl ?_ | refine SxSt.blk 3 rfl rfl rfl rfl ?_ | refine SxSt.blk 4 rfl rfl rfl rfl ?_ | refine SxSt.blk 5 rfl rfl rfl rfl ?_ | refine SxStable.mk [] rfl rfl ?_ | refine SxStable.mk [0] rfl rfl ?_ | refine SxStable.mk [1] rfl rfl ?_ | refine SxStable.mk [0, 1] rfl rfl ?_ | refine SxStable.mk [1, 2] rfl rfl ?_ | refine SxStable.mk [2, 3] rfl rfl ?_ | refine SxStable.mk [0, 1, 2] rfl rfl ?_ | refine SxStable.mk [1, 2, 3] rfl rfl ?_ | refine SxStable.mk [2, 3, 4] rfl rfl ?_ | refine SxStable.mk [0, 1, 2, 3] rfl rfl ?_ | refine SxStable.mk [1, 2, 3, 4] rfl rfl ?_ | refine SxStable.mk [2, 3, 4, 5] rfl rfl ?_ | refine SxStable.mk (allI _) (pickH_all _) (nodupB_all _) ?_ | refine sx_goto ?_ | refine meetQ_n ?_ | refine meetQ_e ?_ | refine meetQ_r ?_ | refine meetQ_g ?_ | refine seqQ_g ?_ | refine blockQ_g ?_ | refine loopQ_g ?_ | refine scopeQ_n ?_ | refine scopeQ_e ?_ | refine scopeQ_r ?_ | refine scopeQ_g ?_ | refine sx_scope ?_ | refine SxBI.real ?_ | refine SxBI.imag ?_ | refine SxBI.complex ?_)); exact h.out)) : G := r ⟨h⟩
end Go.Proofs.Ytdififdnnpgjoaa
/- A symbolic walk: maps. No program is named here. -/
namespace Go.Proofs.Ytdififdnnpgjoaa
open Go.RowKit

/-- A type of keys: numbers, bools, texts, and structs and arrays of these. -/
structure KeyT (S : Sx) (kt : Nat) where
  d : Nat
  ks : List KD
  i : TInf
  hd : Nat.ble d 10000 = true
  hk : kdsOf S d kt = some ks
  hi : tl S.T kt = some i
/-- A value of such a type. -/
def KeyT.ok {S : Sx} {kt : Nat} (K : KeyT S kt) (v : Value) : Prop := allK K.ks v.cells.toList = true ∧ v = valT K.i.d v.cells.toList
section
variable {S : Sx}
theorem chk_run (b : Bool) (m : Nat) : ∀ (d t : Nat) (ks : List KD), kdsOf S d t = some ks → ∀ (i : TInf), tl S.T t = some i → ∀ (xs : List Value), allK ks xs = true → ∀ w, (Instr.checkKey b (m + d) t (valT i.d xs)).run S.P w = .ok () w
  | 0, t, ks, h, _, _, _, _, _ => by cases h
  | d + 1, t, ks, h, i, hi, xs, hx, w => by
    have hdesc := Sx.descOf hi
    unfold kdsOf at h
    rw [hdesc] at h
    rw [show m + (d + 1) = m + d + 1 from rfl]
    cases hd : i.d with
    | bool =>
      rw [hd] at hdesc
      obtain ⟨x, h1, h2⟩ := Sx.und0 hdesc
      obtain rfl := tdOf_bool h2
      simp [Instr.checkKey, run_underlying h1]
    | int k =>
      rw [hd] at hdesc
      have h1 := Sx.uint hdesc
      simp [Instr.checkKey, run_underlying h1]
    | string =>
      rw [hd] at hdesc
      have h1 := Sx.ustr hdesc
      simp [Instr.checkKey, run_underlying h1]
    | slice e => rw [hd] at h; cases h
    | other => rw [hd] at h; cases h
    | array n e =>
      rw [hd] at h hdesc
      simp only at h
      split at h
      · rename_i ke hke
        obtain rfl := Option.some.inj h
        obtain ⟨j, hj⟩ := sz_of_kds d e ke (szC_get hke).1
        obtain ⟨hjs, hj1⟩ := one_of hke hj
        obtain ⟨q, hq0, hq1, hq2, hq3⟩ := Sx.info hj
        have lx := allK_length hx
        rw [reps_len] at lx
        simp only [valT, isAggD, cond_true]
        rw [Instr.checkKey]
        simp only [Sem.run_bind, run_underlying (Sx.uarr hdesc), Result.andThen_ok]
        simp only [Std.Legacy.Range.forIn_eq_forIn_range', Std.Legacy.Range.size, Nat.sub_zero, Nat.add_one_sub_one, Nat.div_one]
        have each : ∀ s ∈ List.range' 0 n, ∃ a, (part e xs.toArray (s * j.size)).run S.P w = .ok a w ∧ (Instr.checkKey b (m + d) e a).run S.P w = .ok () w := by
          intro s hs
          have hsn : s < n := by have := List.mem_range'_1.1 hs; omega
          have hle : s * ke.length + ke.length ≤ n * ke.length := by rw [← Nat.succ_mul]; exact Nat.mul_le_mul_right _ hsn
          refine ⟨_, part_val (S := S) hj (xs := xs) (off := s * j.size) (by rw [hjs, lx]; exact hle) hj1 w, ?_⟩
          refine chk_run b m d e ke (szC_get hke).1 j hj _ ?_ w
          rw [hjs]
          have hx2 := hx
          rw [show n = s + (n - s - 1 + 1) by omega, reps_add] at hx2
          have h2 := (allK_append hx2).2
          rw [reps_len] at h2
          exact (allK_append (ks := ke) (ls := reps (n - s - 1) ke) h2).1
        generalize List.range' 0 n = is at each
        induction is with
        | nil => simp
        | cons s is ih =>
          obtain ⟨a, p1, p2⟩ := each s (by simp)
          simp only [List.forIn_cons, Sem.run_bind, run_size' hj, Result.andThen_ok, p1, p2, Sem.run_pure]
          exact ih (fun y hy => each y (by simp [hy]))
      · cases h
    | struct fs =>
      rw [hd] at h hdesc
      simp only at h
      cases hm : memN t S.cmp with
      | false => rw [hm] at h; cases h
      | true =>
        rw [hm] at h
        simp only [cond_true] at h
        obtain ⟨l, hl1, hl2⟩ := Sx.ustruct hdesc
        subst hl2
        obtain ⟨_, _, hnm⟩ := cmp_ok hm
        have hfo : S.P.fieldsOf t = l := by simp [Program.fieldsOf, hl1]
        rw [hfo] at hnm
        simp only [valT, isAggD, cond_true]
        rw [Instr.checkKey]
        simp only [Sem.run_bind, run_underlying hl1, Result.andThen_ok]
        rw [← Array.forIn_toList]
        have go : ∀ (L : List Field) (o : Nat) (ls : List KD), (∀ f ∈ L, f.name ≠ "_") → kdsFs (fun f => szC S f (kdsOf S d f)) o (L.map fun (f : Field) => (f.offset, f.type)) = some ls → o ≤ xs.length → allK ls (xs.drop o) = true →
            ∀ f ∈ L, f.name ≠ "_" ∧ ∃ a, (part f.type xs.toArray f.offset).run S.P w = .ok a w ∧ (Instr.checkKey b (m + d) f.type a).run S.P w = .ok () w := by
          intro L
          induction L with
          | nil => intro o ls _ _ _ _ f hf; simp at hf
          | cons f L ih =>
            intro o ls hn h ox hx g hg
            simp only [List.map_cons, kdsFs] at h
            cases hb : Nat.beq o f.offset with
            | false => rw [hb] at h; cases h
            | true =>
              rw [hb] at h
              have ho := Nat.eq_of_beq_eq_true hb
              simp only [cond_true] at h
              clear hb
              subst ho
              split at h
              · rename_i kf hkf
                split at h
                · rename_i lr hlr
                  obtain rfl := Option.some.inj h
                  obtain ⟨q, hq⟩ := sz_of_kds d f.type kf (szC_get hkf).1
                  obtain ⟨his, h1'⟩ := one_of hkf hq
                  have ax := allK_append hx
                  have lx := allK_length hx
                  simp only [List.length_drop, List.length_append] at lx
                  rcases List.mem_cons.1 hg with rfl | hg
                  · refine ⟨hn _ (by simp), _, part_val (S := S) hq (xs := xs) (off := g.offset) (by rw [his]; omega) h1' w, ?_⟩
                    rw [his]
                    exact chk_run b m d g.type kf (szC_get hkf).1 q hq _ ax.1 w
                  · exact ih _ lr (fun f hf => hn f (by simp [hf])) hlr (by omega) (by rw [← List.drop_drop]; exact ax.2) g hg
                · cases h
              · cases h
        have each := go l.toList 0 ks hnm h (Nat.zero_le _) hx
        generalize l.toList = L at each
        induction L with
        | nil => simp
        | cons f L ih =>
          obtain ⟨hn, a, p1, p2⟩ := each f (by simp)
          simp only [List.forIn_cons, Sem.run_bind, hn, ne_eq, not_false_eq_true, if_true, Result.andThen_ok, p1, p2, Sem.run_pure]
          exact ih (fun y hy => each y (by simp [hy]))
variable {kt : Nat} (K : KeyT S kt)
theorem KeyT.chk (b : Bool) {v : Value} (hv : K.ok v) (w : World) : (Instr.checkKey b 10000 kt v).run S.P w = .ok () w := by
  have h := chk_run (S := S) b (10000 - K.d) K.d kt K.ks K.hk K.i K.hi _ hv.1 w
  rw [show 10000 - K.d + K.d = 10000 by have := Nat.le_of_ble_eq_true K.hd; omega, ← hv.2] at h
  exact h
def keyEq (u v : Value) : Bool := cellsEq u.cells.toList v.cells.toList
theorem KeyT.eq_iff {u v : Value} (hu : K.ok u) (hv : K.ok v) : keyEq u v = true ↔ u = v := by
  unfold keyEq
  rw [cellsEq_iff hu.1 hv.1]
  exact ⟨fun h => by rw [hu.2, hv.2, h], fun h => by rw [h]⟩
theorem KeyT.eq_false {u v : Value} (hu : K.ok u) (hv : K.ok v) (h : u ≠ v) : keyEq u v = false := by
  cases hc : keyEq u v with
  | false => rfl
  | true => exact absurd ((K.eq_iff hu hv).1 hc) h
theorem KeyT.equal {u v : Value} (hu : K.ok u) (hv : K.ok v) (w : World) : (Op.equal kt u v).run S.P w = .ok (keyEq u v) w := by
  have h := eq_run (S := S) (10000 - K.d) K.d kt K.ks K.hk K.i K.hi _ _ hu.1 hv.1 w
  rw [show 10000 - K.d + K.d = 10000 by have := Nat.le_of_ble_eq_true K.hd; omega, ← hu.2, ← hv.2] at h
  exact h
/-- The first entry of a key. -/
def fnd (k : Value) : List MapEntry → Nat → Option (Nat × Value)
  | [], _ => none
  | e :: r, n => bif keyEq k e.key then some (n, e.val) else fnd k r (n + 1)
theorem KeyT.asking {k : Value} (hk : K.ok k) (w : World) : ∀ (es : List MapEntry) (n : Nat), (∀ e ∈ es, K.ok e.key) → (Instr.findAsking kt k es n).run S.P w = .ok (fnd k es n) w
  | [], n, _ => by simp [Instr.findAsking, fnd]
  | e :: r, n, h => by
    have h1 := K.equal hk (h e (by simp)) w
    have h2 := KeyT.asking hk w r (n + 1) (fun x hx => h x (by simp [hx]))
    simp only [Instr.findAsking, fnd, Sem.run_bind, h1, Result.andThen_ok]
    cases keyEq k e.key with
    | true => simp
    | false => simpa using h2
theorem sameNow_eq {td : TypeDesc} {k u : Value} {b : Bool} (h : Instr.sameNow td k u = some b) : keyEq k u = b := by
  unfold Instr.sameNow at h
  split at h
  · rename_i k1 a k2 b2
    split at h
    · simp only [Option.some.injEq] at h
      subst h
      simp only [keyEq, Value.cells, cellsEq, cellEq]
      cases a == b2 <;> rfl
    · cases h
  · rename_i a b2
    simp only [Option.some.injEq] at h
    subst h
    simp only [keyEq, Value.cells, cellsEq, cellEq]
    have : strEq a b2 = (a == b2) := by
      cases hc : (a == b2) with
      | true => exact (strEq_iff a b2).2 ((MapKept.bytes_beq a b2).1 hc)
      | false =>
        cases hs : strEq a b2 with
        | false => rfl
        | true => rw [(strEq_iff a b2).1 hs, (MapKept.bytes_beq b2 b2).2 rfl] at hc; cases hc
    rw [this]
    cases a == b2 <;> rfl
  · rename_i a b2
    simp only [Option.some.injEq] at h
    subst h
    simp only [keyEq, Value.cells, cellsEq, cellEq]
    cases a == b2 <;> rfl
  · cases h
theorem findNow_eq {td : TypeDesc} {k : Value} : ∀ {es : List MapEntry} {n : Nat} {r : Option (Nat × Value)}, Instr.findNow td k es n = some r → r = fnd k es n
  | [], n, r, h => by simp [Instr.findNow] at h; simp [fnd, ← h]
  | e :: es, n, r, h => by
    simp only [Instr.findNow] at h
    simp only [fnd]
    split at h
    · rename_i hs; rw [sameNow_eq hs]; simpa using h.symm
    · rename_i hs; rw [sameNow_eq hs]; simpa using findNow_eq h
    · cases h
theorem KeyT.find {k : Value} (hk : K.ok k) (w : World) (es : List MapEntry) (h : ∀ e ∈ es, K.ok e.key) : (Instr.findKey kt k es).run S.P w = .ok (fnd k es 0) w := by
  obtain ⟨x, h1, _⟩ := Sx.und0 (Sx.descOf K.hi)
  simp only [Instr.findKey, Sem.run_bind, run_underlying h1, Result.andThen_ok]
  split
  · rename_i r hr; rw [findNow_eq hr]; simp
  · exact K.asking hk w es 0 h
/-- A map: its entries, in the order in which they came. -/
structure MapIs (w : World) (g : Nat) (arr : Array MapEntry) (clock : Nat) : Prop where
  at_ : w.heap[g]? = some (.map arr clock)
  ok : ∀ e ∈ arr.toList, K.ok e.key
  apart : (arr.toList.map (·.key)).Pairwise (· ≠ ·)
  born : (arr.toList.map (·.born)).Pairwise (· < ·)
  old : ∀ e ∈ arr.toList, e.born < clock
def kvOf (arr : Array MapEntry) : List (Value × Value) := arr.toList.map fun e => (e.key, e.val)
/-- The map, its numbers of births known too. -/
def mapX (g : Nat) (arr : Array MapEntry) (clock : Nat) : Ent := .gen
  { own := some g, uses := fun b => b = g, holds := fun w => MapIs K w g arr clock,
    own_uses := fun _ h => (Option.some.inj h).symm,
    uses_lt := fun _ b h hb => by rw [show b = g from hb]; exact (Array.getElem?_eq_some_iff.1 h.at_).1,
    kept := fun w w' row h hg hr => ⟨by rw [hg.block g (Array.getElem?_eq_some_iff.1 h.at_).1 (fun e => hr g e.symm rfl)]; exact h.at_, h.ok, h.apart, h.born, h.old⟩ }
def mapE (g : Nat) (es : List (Value × Value)) : Ent := .gen
  { own := some g, uses := fun b => b = g, holds := fun w => ∃ arr clock, kvOf arr = es ∧ MapIs K w g arr clock,
    own_uses := fun _ h => (Option.some.inj h).symm,
    uses_lt := fun _ b h hb => by obtain ⟨arr, clock, _, h⟩ := h; rw [show b = g from hb]; exact (Array.getElem?_eq_some_iff.1 h.at_).1,
    kept := fun w w' row h hg hr => by
      obtain ⟨arr, clock, he, h⟩ := h
      exact ⟨arr, clock, he, by rw [hg.block g (Array.getElem?_eq_some_iff.1 h.at_).1 (fun e => hr g e.symm rfl)]; exact h.at_, h.ok, h.apart, h.born, h.old⟩ }
variable {W : World} {M : List Nat} {H : Hp} {w : World} {N : Nat} {F : Fr}
theorem Sat.map (hs : Sat W M H w) (p : Nat) {g : Nat} {es : List (Value × Value)} (hp : H[p]? = some (mapE K g es)) : ∃ arr clock, kvOf arr = es ∧ MapIs K w g arr clock := hs.holds p _ hp
theorem fnd_at {k : Value} (hk : K.ok k) : ∀ {l : List MapEntry} {n j : Nat} {v : Value}, (∀ e ∈ l, K.ok e.key) → (l.map (·.key)).Pairwise (· ≠ ·) → (l.map fun e => (e.key, e.val))[j]? = some (k, v) → fnd k l n = some (n + j, v)
  | [], n, j, v, _, _, h => by simp at h
  | e :: r, n, 0, v, ho, _, h => by
    simp only [List.map_cons, List.getElem?_cons_zero, Option.some.injEq, Prod.mk.injEq] at h
    simp only [fnd]
    rw [← h.1, (K.eq_iff (ho e (by simp)) (ho e (by simp))).2 rfl, h.2]
    rfl
  | e :: r, n, j + 1, v, ho, hp, h => by
    simp only [List.map_cons, List.getElem?_cons_succ] at h
    have h1 := fnd_at hk (n := n + 1) (fun x hx => ho x (by simp [hx])) (List.pairwise_cons.1 hp).2 h
    have hm := List.mem_of_getElem? h
    obtain ⟨x, hx, he⟩ := List.mem_map.1 hm
    simp only [Prod.mk.injEq] at he
    have hne := (List.pairwise_cons.1 hp).1 x.key (List.mem_map.2 ⟨x, hx, rfl⟩)
    simp only [fnd]
    rw [K.eq_false hk (ho e (by simp)) (fun h => hne (h.symm.trans he.1.symm)), h1]
    simp only [cond_false, Option.some.injEq, Prod.mk.injEq, and_true]
    omega
theorem fnd_none {k : Value} (hk : K.ok k) : ∀ {l : List MapEntry} {n : Nat}, (∀ e ∈ l, K.ok e.key) → (∀ x ∈ l.map fun e => (e.key, e.val), x.1 ≠ k) → fnd k l n = none
  | [], n, _, _ => rfl
  | e :: r, n, ho, h => by
    simp only [fnd]
    rw [K.eq_false hk (ho e (by simp)) (fun hh => h (e.key, e.val) (by simp) hh.symm), fnd_none hk (fun x hx => ho x (by simp [hx])) (fun x hx => h x (by simp only [List.map_cons, List.mem_cons]; exact .inr hx))]
    rfl
def lookV (ok : Bool) (v : Value) (b : Bool) : Value := bif ok then .tuple #[v, .bool b] else v
/-- m[k]. -/
theorem SxSem.look {o : Oper} {A : Value → Hp → Prop} {t et : Nat} {m x : Operand} {ok : Bool} (p : Nat) {g : Nat} {es : List (Value × Value)} {k : Value} (hop : o.op = .lookup t m x ok) (ht : S.P.underlying t = some (.map kt et)) (hm : ev F m = some (.map (some g))) (hx : ev F x = some k) (hp : H[p]? = some (mapE K g es)) (hk : K.ok k)
    (h : (∃ (j : Nat) (v : Value), es[j]? = some (k, v) ∧ A (lookV ok v true) H) ∨ ((∀ x ∈ es, x.1 ≠ k) ∧ ∃ i, tl S.T et = some i ∧ A (lookV ok i.zero false) H)) : SxSem S W M N o F H A := by
  refine ⟨fun a w Q ha hs => ?_⟩
  obtain ⟨arr, clock, rfl, hM⟩ := hs.map K p hp
  have e1 := K.chk arr.isEmpty hk w
  have e2 := K.find hk w arr.toList hM.ok
  obtain ⟨op, dst, ty, pos, after, guard⟩ := o
  simp only at hop
  subst hop
  rcases h with ⟨j, v, hj, hA⟩ | ⟨hn, i, hi, hA⟩
  · rw [fnd_at K hk hM.ok hM.apart hj] at e2
    refine op_value (w' := w) ?_ hs hA
    simp only [execOp, Instr.lookup, ev_eval ha hm, ev_eval ha hx, Sem.run_bind, run_underlying ht, Result.andThen_ok, MapKept.run_getObj_map hM.at_, e1, e2, Sem.run_pure, lookV]
    cases ok <;> simp
  · rw [fnd_none K hk hM.ok hn] at e2
    refine op_value (w' := w) ?_ hs hA
    simp only [execOp, Instr.lookup, ev_eval ha hm, ev_eval ha hx, Sem.run_bind, run_underlying ht, Result.andThen_ok, MapKept.run_getObj_map hM.at_, e1, e2, Sem.run_pure, lookV, run_zero hi]
    cases ok <;> simp
theorem sameBits_cells (n : Nat) : ∀ {ks : List KD} {xs : List Value}, allK ks xs = true → ∀ x ∈ xs, Instr.sameBits n x x = true
  | [], [], _, x, hx => by simp at hx
  | [], _ :: _, h, _, _ => by simp [allK] at h
  | _ :: _, [], _, x, hx => by simp at hx
  | k :: ks, u :: us, h, x, hx => by
    simp only [allK, Bool.and_eq_true] at h
    rcases List.mem_cons.1 hx with rfl | hx
    · cases k <;> cases x <;> simp only [okK, Bool.false_eq_true, false_and] at h <;> simp [Instr.sameBits, MapKept.bytes_beq]
    · exact sameBits_cells n h.2 x hx
theorem zip_self_all (f : Value → Value → Bool) : ∀ {xs : List Value}, (∀ x ∈ xs, f x x = true) → ((xs.zip xs).all fun (x, y) => f x y) = true
  | [], _ => rfl
  | x :: xs, h => by
    simp only [List.zip_cons_cons, List.all_cons, Bool.and_eq_true]
    exact ⟨h x (by simp), zip_self_all f fun y hy => h y (by simp [hy])⟩
theorem KeyT.stays {k : Value} (hk : K.ok k) (w : World) : (Instr.keyThatStays k k).run S.P w = .ok k w := by
  have hb : Instr.sameBits 10000 k k = true := by
    have hc := sameBits_cells 9999 hk.1
    have hv := hk.2
    unfold valT at hv
    cases ha : isAggD K.i.d with
    | true =>
      rw [ha] at hv
      simp only [cond_true, Array.toArray_toList] at hv
      rw [hv]
      show ((k.cells.size == k.cells.size) && _) = true
      rw [beq_self_eq_true, Bool.true_and]
      exact zip_self_all _ hc
    | false =>
      rw [ha] at hv
      simp only [cond_false] at hv
      have hc2 := sameBits_cells 10000 hk.1
      cases hl : k.cells.toList with
      | nil =>
        rw [hl] at hv
        cases k <;> first
          | (simp [Value.cells] at hl; done)
          | (simp [undef] at hv; done)
          | (rename_i cs
             obtain rfl : cs = #[] := by simpa [Value.cells] using hl
             rfl)
      | cons u us =>
        rw [hl] at hv hc2
        simp only [List.headD_cons] at hv
        rw [hv]
        exact hc2 u (by simp)
  simp [Instr.keyThatStays, hb]
theorem heap_put {w : World} {g : Nat} (hg : g < w.heap.size) (o : Obj) : ({ w with heap := w.heap.setIfInBounds g o } : World).heap[g]? = some o ∧ w.grownBy { w with heap := w.heap.setIfInBounds g o } (some g) := by
  refine ⟨by simp [hg], rfl, rfl, rfl, by simp, fun k hk hne => ?_⟩
  have : g ≠ k := fun e => hne (by rw [e])
  simp [this]
theorem modify_toList {arr : Array MapEntry} {j : Nat} {e : MapEntry} (h : arr.toList[j]? = some e) (f : MapEntry → MapEntry) : (arr.modify j f).toList = arr.toList.set j (f e) := by
  apply List.ext_getElem?
  intro i
  rw [Array.getElem?_toList, Array.getElem?_modify, List.getElem?_set]
  have hl := (List.getElem?_eq_some_iff.1 h).1
  by_cases hi : j = i
  · subst hi
    rw [Array.getElem?_toList] at h
    simp only [if_pos, h, Option.map_some]
    rw [if_pos hl]
  · rw [if_neg hi, if_neg hi, Array.getElem?_toList]
theorem map_set_same {α β : Type} (f : α → β) {l : List α} {j : Nat} {e e' : α} (h : l[j]? = some e) (hf : f e' = f e) : (l.set j e').map f = l.map f := by
  apply List.ext_getElem?
  intro i
  rw [List.getElem?_map, List.getElem?_map, List.getElem?_set]
  by_cases hi : j = i
  · subst hi
    rw [if_pos rfl, h]
    have hl := (List.getElem?_eq_some_iff.1 h).1
    simp [hl, hf]
  · rw [if_neg hi]
variable {K}
theorem MapIs.put {g : Nat} {arr : Array MapEntry} {clock : Nat} (hM : MapIs K w g arr clock) {j : Nat} {k v0 : Value} (hk : K.ok k) (hj : (kvOf arr)[j]? = some (k, v0)) (v : Value) :
    ∃ w', w.heap.setIfInBounds g (.map (arr.modify j fun e => { e with key := k, val := v }) clock) = w'.heap ∧ w' = { w with heap := w.heap.setIfInBounds g (.map (arr.modify j fun e => { e with key := k, val := v }) clock) } ∧ w.grownBy w' (some g) ∧ MapIs K w' g (arr.modify j fun e => { e with key := k, val := v }) clock ∧ kvOf (arr.modify j fun e => { e with key := k, val := v }) = (kvOf arr).set j (k, v) := by
  have hlt := (Array.getElem?_eq_some_iff.1 hM.at_).1
  obtain ⟨h1, h2⟩ := heap_put hlt (.map (arr.modify j fun e => { e with key := k, val := v }) clock)
  unfold kvOf at hj
  rw [List.getElem?_map] at hj
  obtain ⟨e, he, hkv⟩ := Option.map_eq_some_iff.1 hj
  simp only [Prod.mk.injEq] at hkv
  have ht := modify_toList he fun e => { e with key := k, val := v }
  refine ⟨_, rfl, rfl, h2, ⟨h1, ?_, ?_, ?_, ?_⟩, ?_⟩
  · rw [ht]
    intro x hx
    rcases List.mem_or_eq_of_mem_set hx with hx | rfl
    · exact hM.ok x hx
    · exact hk
  · rw [ht, map_set_same (·.key) he hkv.1.symm]; exact hM.apart
  · rw [ht, map_set_same (·.born) (e' := { e with key := k, val := v }) he rfl]; exact hM.born
  · rw [ht]
    intro x hx
    rcases List.mem_or_eq_of_mem_set hx with hx | rfl
    · exact hM.old x hx
    · exact hM.old e (List.mem_of_getElem? he)
  · unfold kvOf; rw [ht, List.map_set]
theorem MapIs.push {g : Nat} {arr : Array MapEntry} {clock : Nat} (hM : MapIs K w g arr clock) {k : Value} (hk : K.ok k) (hn : ∀ x ∈ kvOf arr, x.1 ≠ k) (v : Value) :
    w.grownBy { w with heap := w.heap.setIfInBounds g (.map (arr.push ⟨k, v, clock⟩) (clock + 1)) } (some g) ∧ MapIs K { w with heap := w.heap.setIfInBounds g (.map (arr.push ⟨k, v, clock⟩) (clock + 1)) } g (arr.push ⟨k, v, clock⟩) (clock + 1) ∧ kvOf (arr.push ⟨k, v, clock⟩) = kvOf arr ++ [(k, v)] := by
  have hlt := (Array.getElem?_eq_some_iff.1 hM.at_).1
  obtain ⟨h1, h2⟩ := heap_put hlt (.map (arr.push ⟨k, v, clock⟩) (clock + 1))
  refine ⟨h2, ⟨h1, ?_, ?_, ?_, ?_⟩, ?_⟩
  · intro x hx
    simp only [Array.toList_push, List.mem_append, List.mem_singleton] at hx
    rcases hx with hx | rfl
    · exact hM.ok x hx
    · exact hk
  · rw [Array.toList_push, List.map_append, List.pairwise_append]
    refine ⟨hM.apart, by simp, fun x hx y hy => ?_⟩
    simp at hy
    subst hy
    obtain ⟨e, he, rfl⟩ := List.mem_map.1 hx
    exact hn (e.key, e.val) (List.mem_map.2 ⟨e, he, rfl⟩)
  · rw [Array.toList_push, List.map_append, List.pairwise_append]
    refine ⟨hM.born, by simp, fun x hx y hy => ?_⟩
    simp at hy
    subst hy
    obtain ⟨e, he, rfl⟩ := List.mem_map.1 hx
    exact hM.old e he
  · intro x hx
    simp only [Array.toList_push, List.mem_append, List.mem_singleton] at hx
    rcases hx with hx | rfl
    · exact Nat.lt_succ_of_lt (hM.old x hx)
    · exact Nat.lt_succ_self _
  · unfold kvOf; rw [Array.toList_push, List.map_append]; rfl
theorem MapIs.drop {g : Nat} {arr : Array MapEntry} {clock : Nat} (hM : MapIs K w g arr clock) (j : Nat) :
    w.grownBy { w with heap := w.heap.setIfInBounds g (.map (arr.eraseIdxIfInBounds j) clock) } (some g) ∧ MapIs K { w with heap := w.heap.setIfInBounds g (.map (arr.eraseIdxIfInBounds j) clock) } g (arr.eraseIdxIfInBounds j) clock ∧ kvOf (arr.eraseIdxIfInBounds j) = (kvOf arr).eraseIdx j := by
  have hlt := (Array.getElem?_eq_some_iff.1 hM.at_).1
  obtain ⟨h1, h2⟩ := heap_put hlt (.map (arr.eraseIdxIfInBounds j) clock)
  have ht : (arr.eraseIdxIfInBounds j).toList = arr.toList.eraseIdx j := by
    unfold Array.eraseIdxIfInBounds
    split
    · rw [Array.toList_eraseIdx]
    · rename_i h; rw [List.eraseIdx_of_length_le (by simpa using h)]
  have hsub : (arr.eraseIdxIfInBounds j).toList.Sublist arr.toList := by rw [ht]; exact List.eraseIdx_sublist _ _
  refine ⟨h2, ⟨h1, fun x hx => hM.ok x (hsub.subset hx), hM.apart.sublist (hsub.map _), hM.born.sublist (hsub.map _), fun x hx => hM.old x (hsub.subset hx)⟩, ?_⟩
  unfold kvOf; rw [ht]
  apply List.ext_getElem?
  intro i
  rw [List.getElem?_map, List.getElem?_eraseIdx, List.getElem?_eraseIdx]
  split <;> rw [List.getElem?_map]
theorem Sat.mapSet {w' : World} (hs : Sat W M H w) {p g : Nat} {es es' : List (Value × Value)} (hp : H[p]? = some (mapE K g es)) (hg : w.grownBy w' (some g)) {arr : Array MapEntry} {clock : Nat} (hM : MapIs K w' g arr clock) (he : kvOf arr = es') : Sat W M (H.set p (mapE K g es')) w' :=
  hs.set hp hg ⟨arr, clock, he, hM⟩ fun b hb => .inl (by rw [show b = g from hb]; rfl)
/-- m[k] = v. -/
theorem SxSem.upd {o : Oper} {A : Value → Hp → Prop} {t et : Nat} {m x y : Operand} (p : Nat) {g : Nat} {es : List (Value × Value)} {k v : Value} (hop : o.op = .mapUpdate t m x y ∨ o.op = .insert t m x y) (ht : S.P.underlying t = some (.map kt et)) (hm : ev F m = some (.map (some g))) (hx : ev F x = some k) (hy : ev F y = some v) (hp : H[p]? = some (mapE K g es)) (hk : K.ok k)
    (h : (∃ (j : Nat) (v0 : Value), es[j]? = some (k, v0) ∧ A undef (H.set p (mapE K g (es.set j (k, v))))) ∨ ((∀ x ∈ es, x.1 ≠ k) ∧ A undef (H.set p (mapE K g (es ++ [(k, v)]))))) : SxSem S W M N o F H A := by
  refine ⟨fun a w Q ha hs => ?_⟩
  obtain ⟨arr, clock, rfl, hM⟩ := hs.map K p hp
  have e1 := K.chk false hk w
  have e2 := K.find hk w arr.toList hM.ok
  obtain ⟨op, dst, ty, pos, after, guard⟩ := o
  simp only at hop
  have hrun : ∀ (r : Sem Unit) w', r = Instr.mapUpdate t (a.eval m) (a.eval x) (a.eval y) → r.run S.P w = .ok () w' → (execOp a.eval ⟨op, dst, ty, pos, after, guard⟩).run S.P w = .ok .skip w' := by
    intro r w' hr h1
    subst hr
    rcases hop with rfl | rfl <;> simp [execOp, h1]
  rcases h with ⟨j, v0, hj, hA⟩ | ⟨hn, hA⟩
  · rw [fnd_at K hk hM.ok hM.apart hj, Nat.zero_add] at e2
    obtain ⟨w', _, hw', hg, hM', hkv⟩ := hM.put hk hj v
    have hkey : ((arr[j]?).map (·.key)).getD k = k := by
      unfold kvOf at hj
      rw [List.getElem?_map, Array.getElem?_toList] at hj
      obtain ⟨e, he, hkv⟩ := Option.map_eq_some_iff.1 hj
      simp only [Prod.mk.injEq] at hkv
      rw [he]; exact hkv.1
    have e3 := K.stays hk w
    refine op_skip (w' := w') (hrun _ w' rfl ?_) (hs.mapSet hp hg hM' hkv) hA
    simp only [Instr.mapUpdate, ev_eval ha hm, ev_eval ha hx, ev_eval ha hy, Sem.run_bind, run_underlying ht, Result.andThen_ok, MapKept.run_getObj_map hM.at_, e1, e2, hkey, e3, MapKept.run_setObj_map _ hM.at_]
    rw [hw']
  · rw [fnd_none K hk hM.ok hn] at e2
    obtain ⟨hg, hM', hkv⟩ := hM.push hk hn v
    refine op_skip (hrun _ _ rfl ?_) (hs.mapSet hp hg hM' hkv) hA
    simp only [Instr.mapUpdate, ev_eval ha hm, ev_eval ha hx, ev_eval ha hy, Sem.run_bind, run_underlying ht, Result.andThen_ok, MapKept.run_getObj_map hM.at_, e1, e2, MapKept.run_setObj_map _ hM.at_]
/-- make(map[K]V), map[K]V{}. -/
theorem SxSem.make (K : KeyT S kt) {o : Oper} {A : Value → Hp → Prop} {t : Nat} (hop : o.op = .makeMap t none) (h : ∀ g, A (.map (some g)) (mapE K g [] :: H)) : SxSem S W M N o F H A := by
  refine ⟨fun a w Q ha hs => ?_⟩
  obtain ⟨op, dst, ty, pos, after, guard⟩ := o
  simp only at hop
  subst hop
  have hM : MapIs K (w.alloc (.map #[] 0)) w.heap.size #[] 0 := ⟨heap_alloc_new w _, by simp, by simp, by simp, by simp⟩
  refine op_value (w' := w.alloc (.map #[] 0)) (by simp [execOp, Instr.makeMap]) (hs.cons (new_grown w _) (e := mapE K w.heap.size []) ⟨#[], 0, rfl, hM⟩ fun b hb => ?_) (h w.heap.size)
  rw [show b = w.heap.size from hb]
  exact Nat.le_refl _
/-- len(m). -/
theorem SxLenV.map {tys : List TypeId} {A : Nat → Prop} {t et g : Nat} {es : List (Value × Value)} (p : Nat) (hty : tys = [t]) (ht : S.P.underlying t = some (.map kt et)) (hp : H[p]? = some (mapE K g es)) (h : A es.length) : SxLenV S tys (.map (some g)) H A := by
  refine ⟨es.length, fun W M w ty hs => ?_, h⟩
  obtain ⟨arr, clock, rfl, hM⟩ := hs.map K p hp
  subst hty
  simp [Builtin.len_, run_underlying ht, MapKept.run_getObj_map hM.at_, kvOf]
/-- delete(m, k). -/
theorem SxSem.del {o : Oper} {A : Value → Hp → Prop} {t et : Nat} {m x : Operand} {tys : Array TypeId} (p : Nat) {g : Nat} {es : List (Value × Value)} {k : Value} (hop : o.op = .call ⟨.builtin .delete, #[m, x], tys⟩) (hty : tys[0]? = some t) (ht : S.P.underlying t = some (.map kt et)) (hm : ev F m = some (.map (some g))) (hx : ev F x = some k) (hp : H[p]? = some (mapE K g es)) (hk : K.ok k)
    (h : (∃ (j : Nat) (v0 : Value), es[j]? = some (k, v0) ∧ A (.tuple #[]) (H.set p (mapE K g (es.eraseIdx j)))) ∨ ((∀ x ∈ es, x.1 ≠ k) ∧ A (.tuple #[]) H)) : SxSem S W M N o F H A := by
  refine ⟨fun a w Q ha hs => ?_⟩
  obtain ⟨arr, clock, rfl, hM⟩ := hs.map K p hp
  have e1 := K.chk arr.isEmpty hk w
  have e2 := K.find hk w arr.toList hM.ok
  obtain ⟨op, dst, ty, pos, after, guard⟩ := o
  simp only at hop
  subst hop
  rcases h with ⟨j, v0, hj, hA⟩ | ⟨hn, hA⟩
  · rw [fnd_at K hk hM.ok hM.apart hj, Nat.zero_add] at e2
    obtain ⟨hg, hM', hkv⟩ := hM.drop j
    refine op_value ?_ (hs.mapSet hp hg hM' hkv) hA
    simp [execOp, resolve, invoke, builtin, Builtin.delete_, hty, ev_eval ha hm, ev_eval ha hx, run_underlying ht, MapKept.run_getObj_map hM.at_, e1, e2, MapKept.run_setObj_map _ hM.at_]
  · rw [fnd_none K hk hM.ok hn] at e2
    have hself : ({ w with heap := w.heap.setIfInBounds g (.map arr clock) } : World) = w := by
      have hlt := (Array.getElem?_eq_some_iff.1 hM.at_).1
      have he := (Array.getElem?_eq_some_iff.1 hM.at_).2
      have : w.heap.setIfInBounds g (.map arr clock) = w.heap := by
        apply Array.ext
        · simp
        · intro i h1 h2
          rw [Array.getElem_setIfInBounds]
          split
          · rename_i hi; subst hi; exact he.symm
          · rfl
      rw [this]
    refine op_value (w' := w) ?_ hs hA
    simp [execOp, resolve, invoke, builtin, Builtin.delete_, hty, ev_eval ha hm, ev_eval ha hx, run_underlying ht, MapKept.run_getObj_map hM.at_, e1, e2, MapKept.run_setObj_map _ hM.at_, hself]
end
end Go.Proofs.Ytdififdnnpgjoaa

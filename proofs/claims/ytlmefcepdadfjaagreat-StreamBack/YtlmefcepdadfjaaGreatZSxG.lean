/- A symbolic walk: a stretch of code; loops; a function. No program is named here. -/
import Derived.Test.YtlmefcepdadfjaaGreatZSxF
namespace Go.Proofs.YtlmefcepdadfjaaGreat
open Go.RowKit

def lookD : List (Nat × Bool) → Nat → Option Bool
  | [], _ => none
  | (i, b) :: r, j => bif Nat.beq i j then some b else lookD r j
def nthO : List Oper → Nat → Option Oper
  | [], _ => none
  | v :: _, 0 => some v
  | _ :: r, n + 1 => nthO r n
theorem nthO_eq : ∀ (l : List Oper) (n : Nat), nthO l n = l[n]?
  | [], n => by simp [nthO]
  | v :: r, 0 => by simp [nthO]
  | v :: r, n + 1 => by simp [nthO, nthO_eq r n]
def gdst (all : List Oper) (j : Nat) : Option Nat := match nthO all j with | some o => o.dst | none => none
def sameB : Bool → Bool → Bool
  | true, true | false, false => true
  | _, _ => false
theorem sameB_eq {a b : Bool} (h : sameB a b = true) : a = b := by cases a <;> cases b <;> first | rfl | cases h
def sxOps (S : Sx) (W : World) (M : List Nat) (N : Nat) (all : List Oper) : List Oper → List (Nat × Bool) → Fr → Hp → (Fr → Hp → Prop) → Prop
  | [], _, F, H, K => K F H
  | o :: r, D, F, H, K => bif dstOk N o.dst then
      (match o.guard with
      | none => sxOp S W M N o F H fun v H' => sxOps S W M N all r D (upd o.dst v F) H' K
      | some (j, want) => match gdst all j with
        | some d => match look F d with
          | some (.bool t) => match lookD D j with
            | some b => bif sameB t b then (bif sameB b want then sxOp S W M N o F H fun v H' => sxOps S W M N all r D (upd o.dst v F) H' K else sxOps S W M N all r D (upd o.dst undef F) H K) else False
            | none => SxIf t
                (bif want then sxOp S W M N o ((d, some (.bool true)) :: F) H fun v H' => sxOps S W M N all r ((j, true) :: D) (upd o.dst v ((d, some (.bool true)) :: F)) H' K else sxOps S W M N all r ((j, true) :: D) (upd o.dst undef ((d, some (.bool true)) :: F)) H K)
                (bif want then sxOps S W M N all r ((j, false) :: D) (upd o.dst undef ((d, some (.bool false)) :: F)) H K else sxOp S W M N o ((d, some (.bool false)) :: F) H fun v H' => sxOps S W M N all r ((j, false) :: D) (upd o.dst v ((d, some (.bool false)) :: F)) H' K)
          | some (.tuple _) => sxOps S W M N all r D (upd o.dst undef F) H K
          | _ => False
        | none => False)
    else False
def writes : Code → List Nat
  | .region _ ops _ => ops.toList.filterMap (·.dst)
  | .seq x y => writes x ++ writes y
  | .cond _ x y => writes x ++ writes y
  | .block _ c => writes c
  | .loop c => writes c
  | .scope c => writes c
  | .rangeFunc _ _ x y => writes x ++ writes y
  | _ => []
def Same (wr : List Nat) (a a' : Act) : Prop := ∀ t, t ∉ wr → a'.tmps.getD t undef = a.tmps.getD t undef
theorem Same.refl (wr : List Nat) (a : Act) : Same wr a a := fun _ _ => rfl
theorem Same.trans {u v : List Nat} {a b c : Act} (h : Same u a b) (k : Same v b c) {wr : List Nat} (hu : ∀ t ∈ u, t ∈ wr) (hv : ∀ t ∈ v, t ∈ wr) : Same wr a c :=
  fun t ht => (k t fun h => ht (hv t h)).trans (h t fun h => ht (hu t h))
theorem Same.put {wr : List Nat} {a b : Act} (h : Same wr a b) {d : Option Nat} (hd : ∀ t, d = some t → t ∈ wr) (v : Value) : Same wr a (b.put d v) := by
  intro t ht
  rw [← h t ht]
  cases d with
  | none => rfl
  | some d =>
    have hne : t ≠ d := fun e => ht (e ▸ hd d rfl)
    unfold Act.put
    by_cases hs : t < b.tmps.size
    · simp [hs, Ne.symm hne]
    · simp [hs]
def Lift (W : World) (M : List Nat) (N : Nat) (Q : Exit → Fr → Hp → Prop) (wr : List Nat) (a : Act) : Exit → Act → World → Prop :=
  fun e a' w' => ∃ F H, Q e F H ∧ Agree N F a' ∧ Sat W M H w' ∧ Same wr a a'
inductive SxCode (S : Sx) (W : World) (M : List Nat) (N : Nat) (c : Code) (Q : Exit → Fr → Hp → Prop) (F : Fr) (H : Hp) : Prop
  | mk (h : ∀ a w, Agree N F a → Sat W M H w → c.wp S.P (Lift W M N Q (writes c) a) a w)
def condF (c : Operand) (b : Bool) (F : Fr) : Fr := match c with
  | .tmp t => (t, some (.bool b)) :: F
  | _ => F
def sx (S : Sx) (W : World) (M : List Nat) (N : Nat) : Code → (Exit → Fr → Hp → Prop) → Fr → Hp → Prop
  | .skip, Q, F, H => Q .normal F H
  | .label _, Q, F, H => Q .normal F H
  | .region i ops d, Q, F, H => match d with
    | false => sxOps S W M N ops.toList ops.toList [] F H (Q .normal)
    | true => SxCode S W M N (.region i ops true) Q F H
  | .seq x y, Q, F, H => sx S W M N x (fun e F' H' => match e with
    | .normal => sx S W M N y Q F' H'
    | e => Q e F' H') F H ∨ SxCode S W M N (.seq x y) Q F H
  | .cond c x y, Q, F, H => match ev F c with
    | some (.bool t) => SxIf t (sx S W M N x Q (condF c true F) H) (sx S W M N y Q (condF c false F) H)
    | _ => False
  | .block id c, Q, F, H => sx S W M N c (fun e F' H' => match e with
    | .exit i => bif Nat.beq i id then Q .normal F' H' else Q (.exit i) F' H'
    | e => Q e F' H') F H
  | .exit id, Q, F, H => Q (.exit id) F H
  | .goto l, Q, F, H => Q (.goto l) F H
  | .ret, Q, F, H => Q .ret F H
  | .loop c, Q, F, H => SxCode S W M N (.loop c) Q F H
  | .scope c, Q, F, H => SxCode S W M N (.scope c) Q F H
  | .rangeFunc f ps x y, Q, F, H => SxCode S W M N (.rangeFunc f ps x y) Q F H
  | .refuse s, Q, F, H => SxCode S W M N (.refuse s) Q F H
section
variable {S : Sx} {W : World} {M : List Nat} {N : Nat}
theorem yielded_of {all : List Oper} {j d : Nat} {F : Fr} {a : Act} {t : Bool} (ha : Agree N F a) (hg : gdst all j = some d) (hl : look F d = some (.bool t)) : yielded all.toArray a.tmps j = some t := by
  have hv := ha.slots d _ hl
  have hd : a.tmps[d]? = some (.bool t) := by
    by_cases h : d < a.tmps.size
    · simp [h] at hv ⊢; exact hv
    · simp [h, undef] at hv
  unfold gdst at hg
  rw [nthO_eq] at hg
  split at hg
  · rename_i o ho
    simp [yielded, ho, hg, hd]
  · cases hg
theorem yielded_no {all : List Oper} {j d : Nat} {F : Fr} {a : Act} {vs : Array Value} (ha : Agree N F a) (hg : gdst all j = some d) (hl : look F d = some (.tuple vs)) : yielded all.toArray a.tmps j = none := by
  have hv := ha.slots d _ hl
  unfold gdst at hg
  rw [nthO_eq] at hg
  split at hg
  · rename_i o ho
    by_cases h : d < a.tmps.size
    · have hd : a.tmps[d]? = some (.tuple vs) := by simp [h] at hv ⊢; exact hv
      simp [yielded, ho, hg, hd]
    · have hd : a.tmps[d]? = none := by simp; omega
      simp [yielded, ho, hg, hd]
  · cases hg
theorem Agree.bool {F : Fr} {a : Act} {d : Nat} {t : Bool} (ha : Agree N F a) (hl : look F d = some (.bool t)) : Agree N ((d, some (.bool t)) :: F) a := by
  refine ⟨ha.size, ha.defers, fun s v hs => ?_⟩
  simp only [look] at hs
  cases hb : Nat.beq d s with
  | true =>
    rw [hb] at hs
    have : d = s := Nat.eq_of_beq_eq_true hb
    subst this
    exact ha.slots d v (by rw [hl]; exact hs)
  | false => rw [hb] at hs; exact ha.slots s v hs
theorem sxOps_sound {all : List Oper} {K : Fr → Hp → Prop} {Q : Exit → Act → World → Prop} {a0 : Act} {wr : List Nat}
    (hQ : ∀ F H a w, K F H → Agree N F a → Sat W M H w → Same wr a0 a → Q .normal a w) :
    ∀ (r : List Oper) (D : List (Nat × Bool)) (F : Fr) (H : Hp) (a : Act) (w : World), (∀ o ∈ r, ∀ t, o.dst = some t → t ∈ wr) → sxOps S W M N all r D F H K → Agree N F a → Sat W M H w → Same wr a0 a → wpList S.P all.toArray Q r a w
  | [], D, F, H, a, w, _, h, ha, hs, hsm => hQ F H a w h ha hs hsm
  | o :: r, D, F, H, a, w, hw, h, ha, hs, hsm => by
    have hw' : ∀ o ∈ r, ∀ t, o.dst = some t → t ∈ wr := fun x hx => hw x (by simp [hx])
    have hwo := hw o (by simp)
    simp only [sxOps] at h
    cases hd : dstOk N o.dst with
    | false => rw [hd] at h; exact h.elim
    | true =>
      rw [hd] at h
      simp only [cond_true] at h
      have runs : ∀ (D' : List (Nat × Bool)) (F' : Fr), Region.wanted o (yielded all.toArray a.tmps) = true → Agree N F' a → sxOp S W M N o F' H (fun v H' => sxOps S W M N all r D' (upd o.dst v F') H' K) → wpList S.P all.toArray Q (o :: r) a w := by
        intro D' F' hwant ha' hop
        simp only [wpList, hwant, if_true]
        refine .inl (Oper.wp_mono (fun a' w' hk => ?_) (sxOp_sound hop ha' hs Q))
        obtain ⟨v, H', rfl, hs', hk⟩ := hk
        exact sxOps_sound hQ r D' _ H' _ w' hw' hk (ha'.put hd v) hs' (hsm.put hwo v)
      have skips : ∀ (D' : List (Nat × Bool)) (F' : Fr), Region.wanted o (yielded all.toArray a.tmps) = false → Agree N F' a → sxOps S W M N all r D' (upd o.dst undef F') H K → wpList S.P all.toArray Q (o :: r) a w := by
        intro D' F' hwant ha' hk
        simp only [wpList, hwant]
        exact sxOps_sound hQ r D' _ H _ w hw' hk (ha'.put hd undef) hs (hsm.put hwo undef)
      split at h
      · rename_i hg
        exact runs D F (by simp [Region.wanted, hg]) ha h
      · rename_i j want hg
        split at h
        · rename_i d hgd
          split at h
          · rename_i t hl
            have hy := yielded_of ha hgd hl
            have hwt : Region.wanted o (yielded all.toArray a.tmps) = (some t == some want) := by simp [Region.wanted, hg, hy]
            split at h
            · rename_i b hD
              cases hsb : sameB t b with
              | false => rw [hsb] at h; exact h.elim
              | true =>
                rw [hsb] at h
                obtain rfl := sameB_eq hsb
                simp only [cond_true] at h
                cases hbw : sameB t want with
                | true =>
                  rw [hbw] at h
                  obtain rfl := sameB_eq hbw
                  exact runs D F (by rw [hwt]; simp) ha h
                | false =>
                  rw [hbw] at h
                  refine skips D F (by rw [hwt]; cases t <;> cases want <;> first | rfl | cases hbw) ha h
            · cases h with
              | mk h1 h2 =>
                cases t with
                | true =>
                  have h := h1 rfl
                  cases want with
                  | true => exact runs _ _ (by rw [hwt]; rfl) (ha.bool hl) h
                  | false => exact skips _ _ (by rw [hwt]; rfl) (ha.bool hl) h
                | false =>
                  have h := h2 rfl
                  cases want with
                  | true => exact skips _ _ (by rw [hwt]; rfl) (ha.bool hl) h
                  | false => exact runs _ _ (by rw [hwt]; rfl) (ha.bool hl) h
          · rename_i vs hl
            exact skips D F (by simp [Region.wanted, hg, yielded_no ha hgd hl]) ha h
          · exact h.elim
        · exact h.elim
theorem sx_sound : ∀ (c : Code) (Q : Exit → Fr → Hp → Prop) (F : Fr) (H : Hp), sx S W M N c Q F H → ∀ (a : Act) (w : World), Agree N F a → Sat W M H w → c.wp S.P (Lift W M N Q (writes c) a) a w := by
  intro c
  induction c with
  | skip => intro Q F H h a w ha hs; exact wp_skip ⟨F, H, h, ha, hs, Same.refl _ _⟩
  | label l => intro Q F H h a w ha hs; exact wp_label ⟨F, H, h, ha, hs, Same.refl _ _⟩
  | region i ops d =>
    intro Q F H h a w ha hs
    cases d with
    | true => simp only [sx] at h; cases h with | mk h => exact h a w ha hs
    | false =>
      simp only [sx] at h
      refine wp_region_list (sxOps_sound (K := Q .normal) (a0 := a) (wr := writes (.region i ops false)) (fun F' H' a' w' hk ha' hs' hsm => ⟨F', H', hk, ha', hs', hsm⟩) ops.toList [] F H a w ?_ h ha hs (Same.refl _ _))
      intro o ho t ht
      exact List.mem_filterMap.2 ⟨o, ho, ht⟩
  | seq x y ihx ihy =>
    intro Q F H h a w ha hs
    simp only [sx] at h
    rcases h with h | h
    case inr => cases h with | mk h => exact h a w ha hs
    have hx := ihx _ F H h a w ha hs
    refine wp_seq (wp_mono hx fun e a' w' hl => ?_)
    obtain ⟨F', H', hq, ha', hs', hsm⟩ := hl
    have up : ∀ t ∈ writes x, t ∈ writes (.seq x y) := fun t ht => by simp [writes, ht]
    have up2 : ∀ t ∈ writes y, t ∈ writes (.seq x y) := fun t ht => by simp [writes, ht]
    cases e with
    | normal =>
      refine wp_mono (ihy Q F' H' hq a' w' ha' hs') fun e2 a2 w2 hl2 => ?_
      obtain ⟨F2, H2, hq2, ha2, hs2, hsm2⟩ := hl2
      exact ⟨F2, H2, hq2, ha2, hs2, hsm.trans hsm2 up up2⟩
    | exit id => exact ⟨F', H', hq, ha', hs', hsm.trans (Same.refl [] _) up (by simp)⟩
    | goto l => exact ⟨F', H', hq, ha', hs', hsm.trans (Same.refl [] _) up (by simp)⟩
    | ret => exact ⟨F', H', hq, ha', hs', hsm.trans (Same.refl [] _) up (by simp)⟩
    | panic ch => exact ⟨F', H', hq, ha', hs', hsm.trans (Same.refl [] _) up (by simp)⟩
    | outgrown => exact ⟨F', H', hq, ha', hs', hsm.trans (Same.refl [] _) up (by simp)⟩
  | cond c x y ihx ihy =>
    intro Q F H h a w ha hs
    simp only [sx] at h
    split at h
    · rename_i t ht
      have hev := ev_eval ha ht
      have hF : Agree N (condF c t F) a := by
        unfold condF
        split
        · exact ha.bool ht
        · exact ha
      have up : ∀ t ∈ writes x, t ∈ writes (.cond c x y) := fun t ht => by simp [writes, ht]
      have up2 : ∀ t ∈ writes y, t ∈ writes (.cond c x y) := fun t ht => by simp [writes, ht]
      cases h with
      | mk h1 h2 =>
        cases t with
        | true =>
          refine wp_cond_true hev (wp_mono (ihx Q _ H (h1 rfl) a w hF hs) fun e a' w' hl => ?_)
          obtain ⟨F', H', hq, ha', hs', hsm⟩ := hl
          exact ⟨F', H', hq, ha', hs', hsm.trans (Same.refl [] _) up (by simp)⟩
        | false =>
          refine wp_cond_false hev (wp_mono (ihy Q _ H (h2 rfl) a w hF hs) fun e a' w' hl => ?_)
          obtain ⟨F', H', hq, ha', hs', hsm⟩ := hl
          exact ⟨F', H', hq, ha', hs', hsm.trans (Same.refl [] _) up2 (by simp)⟩
    · exact h.elim
  | block id c ih =>
    intro Q F H h a w ha hs
    simp only [sx] at h
    refine wp_block (wp_mono (ih _ F H h a w ha hs) fun e a' w' hl => ?_)
    obtain ⟨F', H', hq, ha', hs', hsm⟩ := hl
    cases e with
    | exit i =>
      simp only [Exit.inBlock]
      dsimp only at hq
      cases hb : Nat.beq i id with
      | true =>
        rw [hb] at hq
        rw [if_pos (Nat.eq_of_beq_eq_true hb)]
        exact ⟨F', H', hq, ha', hs', hsm⟩
      | false =>
        rw [hb] at hq
        rw [if_neg (fun e => by subst e; simp at hb)]
        exact ⟨F', H', hq, ha', hs', hsm⟩
    | normal => exact ⟨F', H', hq, ha', hs', hsm⟩
    | goto l => exact ⟨F', H', hq, ha', hs', hsm⟩
    | ret => exact ⟨F', H', hq, ha', hs', hsm⟩
    | panic ch => exact ⟨F', H', hq, ha', hs', hsm⟩
    | outgrown => exact ⟨F', H', hq, ha', hs', hsm⟩
  | exit id => intro Q F H h a w ha hs; exact wp_exit ⟨F, H, h, ha, hs, Same.refl _ _⟩
  | goto l => intro Q F H h a w ha hs; exact wp_goto ⟨F, H, h, ha, hs, Same.refl _ _⟩
  | ret => intro Q F H h a w ha hs; exact wp_ret ⟨F, H, h, ha, hs, Same.refl _ _⟩
  | loop c ih => intro Q F H h a w ha hs; simp only [sx] at h; cases h with | mk h => exact h a w ha hs
  | scope c ih => intro Q F H h a w ha hs; simp only [sx] at h; cases h with | mk h => exact h a w ha hs
  | rangeFunc f ps x y ihx ihy => intro Q F H h a w ha hs; simp only [sx] at h; cases h with | mk h => exact h a w ha hs
  | refuse s => intro Q F H h a w ha hs; simp only [sx] at h; cases h with | mk h => exact h a w ha hs
def seqQ (S : Sx) (W : World) (M : List Nat) (N : Nat) (y : Code) (Q : Exit → Fr → Hp → Prop) : Exit → Fr → Hp → Prop := fun e F' H' => match e with
    | .normal => sx S W M N y Q F' H'
    | e => Q e F' H'
def blockQ (id : Nat) (Q : Exit → Fr → Hp → Prop) : Exit → Fr → Hp → Prop := fun e F' H' => match e with
    | .exit i => bif Nat.beq i id then Q .normal F' H' else Q (.exit i) F' H'
    | e => Q e F' H'
section
variable {Q : Exit → Fr → Hp → Prop} {F : Fr} {H : Hp} {x y c : Code}
theorem sx_seq (h : sx S W M N x (seqQ S W M N y Q) F H) : sx S W M N (.seq x y) Q F H := .inl h
theorem sx_skip (h : Q .normal F H) : sx S W M N .skip Q F H := h
theorem sx_label {l : Nat} (h : Q .normal F H) : sx S W M N (.label l) Q F H := h
theorem sx_exit {i : Nat} (h : Q (.exit i) F H) : sx S W M N (.exit i) Q F H := h
theorem sx_ret (h : Q .ret F H) : sx S W M N .ret Q F H := h
theorem sx_block {id : Nat} (h : sx S W M N c (blockQ id Q) F H) : sx S W M N (.block id c) Q F H := h
theorem sx_cond {o : Operand} {t : Bool} (he : ev F o = some (.bool t)) (h : SxIf t (sx S W M N x Q (condF o true F) H) (sx S W M N y Q (condF o false F) H)) : sx S W M N (.cond o x y) Q F H := by
  simp only [sx, he]; exact h
theorem sx_region {i : Nat} {ops : Array Oper} {l : List Oper} (hl : ops = ⟨l⟩) (h : sxOps S W M N l l [] F H (Q .normal)) : sx S W M N (.region i ops false) Q F H := by subst hl; exact h
theorem sx_draw {i : Nat} {ops : Array Oper} (h : SxCode S W M N (.region i ops true) Q F H) : sx S W M N (.region i ops true) Q F H := h
theorem sx_loop (h : SxCode S W M N (.loop c) Q F H) : sx S W M N (.loop c) Q F H := h
theorem sx_scope (h : SxCode S W M N (.scope c) Q F H) : sx S W M N (.scope c) Q F H := h
theorem seqQ_n (h : sx S W M N y Q F H) : seqQ S W M N y Q .normal F H := h
theorem seqQ_e {i : Nat} (h : Q (.exit i) F H) : seqQ S W M N y Q (.exit i) F H := h
theorem seqQ_r (h : Q .ret F H) : seqQ S W M N y Q .ret F H := h
theorem blockQ_n {id : Nat} (h : Q .normal F H) : blockQ id Q .normal F H := h
theorem blockQ_r {id : Nat} (h : Q .ret F H) : blockQ id Q .ret F H := h
theorem blockQ_x {id : Nat} (h : Q .normal F H) : blockQ id Q (.exit id) F H := by simp only [blockQ, Nat.beq_refl, cond_true]; exact h
theorem blockQ_e {i id : Nat} (hb : Nat.beq i id = false) (h : Q (.exit i) F H) : blockQ id Q (.exit i) F H := by simp only [blockQ, hb, cond_false]; exact h
end
def cmpV (op : BinOp) (x y : Int) : Option Value :=
  match op with
  | .eql => some (.bool (x == y))
  | .neq => some (.bool (x != y))
  | .lss => some (.bool (decide (x < y)))
  | .leq => some (.bool (decide (x ≤ y)))
  | .gtr => some (.bool (decide (x > y)))
  | .geq => some (.bool (decide (x ≥ y)))
  | _ => none
def bitV (op : BinOp) (k : IntKind) (x y : Int) : Option Value :=
  match op with
  | .and => some (.int k (bitI .and k x y))
  | .or => some (.int k (bitI .or k x y))
  | .xor => some (.int k (bitI .xor k x y))
  | .andNot => some (.int k (bitI .andNot k x y))
  | op => cmpV op x y
def strV (op : BinOp) (x y : ByteArray) : Option Value :=
  match op with
  | .eql => some (.bool (strEq x y))
  | .neq => some (.bool (!strEq x y))
  | .lss => some (.bool (strLt x y))
  | .leq => some (.bool (strLt x y || strEq x y))
  | .gtr => some (.bool (!(strLt x y || strEq x y)))
  | .geq => some (.bool (!strLt x y))
  | _ => none
def lenV (d : TD) (v : Value) : Option Value :=
  match d, v with
  | .string, .string s => some (.int .i64 (s.size : Nat))
  | .slice _, .slice _ n _ => some (.int .i64 (n : Nat))
  | .array n _, _ => some (.int .i64 (n : Nat))
  | _, _ => none
def pureOp (S : Sx) (F : Fr) (op : Op) : Option Value :=
  match op with
  | .move x | .assign x => ev F x
  | .pick c x y => match ev F c with
    | some (.bool true) => ev F x
    | some (.bool false) => ev F y
    | _ => none
  | .binOp op _ x y _ => match ev F x, ev F y with
    | some (.int k m), some (.int k' n) => bif isShift op then none else bif sameK k k' then bitV op k m n else none
    | some (.string m), some (.string n) => strV op m n
    | _, _ => none
  | .unOp .not _ x => match ev F x with
    | some (.bool b) => some (.bool !b)
    | _ => none
  | .fieldAddr t x f => match S.desc t, ev F x with
    | some (.struct fs), some (.pointer (some ⟨g, off, none⟩)) => match placeF S fs f with
      | some (d, n) => bif Nat.blt 0 n then some (.pointer (some ⟨g, off + d, none⟩)) else none
      | none => none
    | _, _ => none
  | .nilCheck x => match ev F x with
    | some (.pointer (some a)) => some (.pointer (some a))
    | some (.func (.func f) first captured) => some (.func (.func f) first captured)
    | _ => none
  | .extract x i => match ev F x with
    | some (.tuple vs) => nthV vs.toList i
    | _ => none
  | .makeFunc fn first captured => match evs F first.toList, evs F captured.toList with
    | some u, some v => some (.func fn u.toArray v.toArray)
    | _, _ => none
  | .call c => match c.callee, c.argTypes.toList, evs F c.args.toList with
    | .builtin .len, t :: _, some [v] => match S.desc t with
      | some d => lenV d v
      | none => none
    | _, _, _ => none
  | .convert src dst x => match S.desc src, S.desc dst, ev F x with
    | some .string, some .string, some (.string s) => some (.string s)
    | _, _, _ => none
  | _ => none
theorem pureOp_ok {F : Fr} {H : Hp} {o : Oper} {v : Value} {A : Value → Hp → Prop} (h : pureOp S F o.op = some v) (hA : A v H) : sxOp S W M N o F H A := by
  obtain ⟨dst, op, ty, pos, after, guard⟩ := o
  dsimp only at h
  cases op
  case move x => simp only [pureOp] at h; simp only [sxOp, h]; exact hA
  case assign x => simp only [pureOp] at h; simp only [sxOp, h]; exact hA
  case pick c x y =>
    simp only [pureOp] at h
    simp only [sxOp]
    split at h
    · rename_i hc; simp only [hc, h]; exact SxIf.tt hA
    · rename_i hc; simp only [hc, h]; exact SxIf.ff hA
    · cases h
  case binOp b t x y yt =>
    simp only [pureOp] at h
    simp only [sxOp]
    split at h
    · rename_i k m k' n hx hy
      simp only [hx, hy, sxBin]
      cases hs : isShift b with
      | true => rw [hs] at h; cases h
      | false =>
        rw [hs] at h
        simp only [cond_false] at h ⊢
        cases hk : sameK k k' with
        | false => rw [hk] at h; cases h
        | true =>
          rw [hk] at h
          simp only [cond_true] at h ⊢
          cases b <;> simp only [bitV, cmpV, Option.some.injEq, reduceCtorEq] at h <;> subst h <;> exact hA
    · rename_i m n hx hy
      simp only [hx, hy, sxBin]
      cases b <;> simp only [strV, Option.some.injEq, reduceCtorEq] at h <;> subst h <;> exact hA
    · cases h
  case unOp b t x =>
    cases b <;> simp only [pureOp, reduceCtorEq] at h
    simp only [sxOp]
    split at h
    · rename_i b hb; simp only [hb]; rw [← Option.some.inj h] at hA; exact hA
    · cases h
  case fieldAddr t x f =>
    simp only [pureOp] at h
    simp only [sxOp]
    split at h
    · rename_i fs g off hd hx
      simp only [hd, hx]
      split at h
      · rename_i d n hp
        simp only [hp]
        cases hn : Nat.blt 0 n with
        | false => rw [hn] at h; cases h
        | true => rw [hn] at h; rw [← Option.some.inj h] at hA; exact hA
      · cases h
    · cases h
  case nilCheck x =>
    simp only [pureOp] at h
    simp only [sxOp]
    split at h
    · rename_i a hx; simp only [hx]; rw [← Option.some.inj h] at hA; exact hA
    · rename_i hx; simp only [hx]; rw [← Option.some.inj h] at hA; exact hA
    · cases h
  case extract x i =>
    simp only [pureOp] at h
    simp only [sxOp]
    split at h
    · rename_i vs hx; simp only [hx, h]; exact hA
    · cases h
  case makeFunc fn first captured =>
    simp only [pureOp] at h
    simp only [sxOp]
    split at h
    · rename_i u v hu hv; simp only [hu, hv]; rw [← Option.some.inj h] at hA; exact hA
    · cases h
  case call c =>
    simp only [pureOp] at h
    simp only [sxOp]
    split at h
    · rename_i t r v hc ht hv
      split at h
      · rename_i d hd
        have hus : useSem .len [v] = false := rfl
        simp only [hc, hv, ht, hus, cond_false, sxBuiltin, hd]
        unfold lenV at h
        split at h
        · rw [← Option.some.inj h] at hA; exact hA
        · rw [← Option.some.inj h] at hA; exact hA
        · rw [← Option.some.inj h] at hA; exact hA
        · cases h
      · cases h
    · cases h
  case convert src dst x =>
    simp only [pureOp] at h
    simp only [sxOp]
    split at h
    · rename_i s h1 h2 h3; simp only [h3, sxConv, h1, h2]; rw [← Option.some.inj h] at hA; exact hA
    · cases h
  all_goals (simp only [pureOp, reduceCtorEq] at h)
def status (N : Nat) (all : List Oper) (o : Oper) (D : List (Nat × Bool)) (F : Fr) : Nat :=
  bif dstOk N o.dst then
    match o.guard with
    | none => 2
    | some (j, want) => match gdst all j with
      | some d => match look F d with
        | some (.bool t) => match lookD D j with
          | some b => bif sameB t b then (bif sameB b want then 2 else 1) else 0
          | none => 0
        | some (.tuple _) => 1
        | _ => 0
      | none => 0
  else 0
def runOps (S : Sx) (N : Nat) (all : List Oper) : List Oper → List (Nat × Bool) → Fr → List Oper × Fr
  | [], _, F => ([], F)
  | o :: r, D, F => match status N all o D F with
    | 2 => match pureOp S F o.op with
      | some v => runOps S N all r D (upd o.dst v F)
      | none => (o :: r, F)
    | 1 => runOps S N all r D (upd o.dst undef F)
    | _ => (o :: r, F)
section
variable {F : Fr} {H : Hp} {K : Fr → Hp → Prop} {all r : List Oper} {o : Oper} {D : List (Nat × Bool)}
theorem ops_nil (h : K F H) : sxOps S W M N all [] D F H K := h
theorem ops_op (hs : Nat.beq (status N all o D F) 2 = true) (h : sxOp S W M N o F H fun v H' => sxOps S W M N all r D (upd o.dst v F) H' K) : sxOps S W M N all (o :: r) D F H K := by
  have hs := Nat.eq_of_beq_eq_true hs
  simp only [sxOps]
  unfold status at hs
  cases hd : dstOk N o.dst with
  | false => rw [hd] at hs; cases hs
  | true =>
    rw [hd] at hs
    simp only [cond_true] at hs ⊢
    split at hs
    · rename_i hg; exact h
    · rename_i j want hg
      split at hs
      · rename_i d hgd
        try simp only [hg, hgd]
        split at hs
        · rename_i t hl
          try simp only [hl]
          split at hs
          · rename_i b hD
            try simp only [hD]
            cases h1 : sameB t b with
            | false => rw [h1] at hs; cases hs
            | true =>
              rw [h1] at hs
              simp only [cond_true] at hs ⊢
              cases h2 : sameB b want with
              | false => rw [h2] at hs; cases hs
              | true => exact h
          · cases hs
        · cases hs
        · cases hs
      · cases hs
theorem ops_skip (hs : status N all o D F = 1) (h : sxOps S W M N all r D (upd o.dst undef F) H K) : sxOps S W M N all (o :: r) D F H K := by
  simp only [sxOps]
  unfold status at hs
  cases hd : dstOk N o.dst with
  | false => rw [hd] at hs; cases hs
  | true =>
    rw [hd] at hs
    simp only [cond_true] at hs ⊢
    split at hs
    · cases hs
    · rename_i j want hg
      split at hs
      · rename_i d hgd
        try simp only [hg, hgd]
        split at hs
        · rename_i t hl
          try simp only [hl]
          split at hs
          · rename_i b hD
            try simp only [hD]
            cases h1 : sameB t b with
            | false => rw [h1] at hs; cases hs
            | true =>
              rw [h1] at hs
              simp only [cond_true] at hs ⊢
              cases h2 : sameB b want with
              | false => exact h
              | true => rw [h2] at hs; cases hs
          · cases hs
        · rename_i vs hl
          try simp only [hl]
          exact h
        · cases hs
      · cases hs
theorem ops_guard {j d : Nat} {want t : Bool} (hd : dstOk N o.dst = true) (hg : o.guard = some (j, want)) (hgd : gdst all j = some d) (hl : look F d = some (.bool t)) (hD : lookD D j = none)
    (h : SxIf t (sxOps S W M N all (o :: r) ((j, true) :: D) ((d, some (.bool true)) :: F) H K) (sxOps S W M N all (o :: r) ((j, false) :: D) ((d, some (.bool false)) :: F) H K)) : sxOps S W M N all (o :: r) D F H K := by
  have look0 : ∀ b, look ((d, some (.bool b)) :: F) d = some (.bool b) := fun b => by simp [look]
  have lookD0 : ∀ b, lookD ((j, b) :: D) j = some b := fun b => by simp [lookD]
  simp only [sxOps, hd, hg, hgd, look0, lookD0, cond_true] at h
  simp only [sxOps, hd, hg, hgd, hl, hD, cond_true]
  cases h with
  | mk h1 h2 =>
    refine ⟨fun ht => ?_, fun ht => ?_⟩
    · have h := h1 ht
      cases want <;> exact h
    · have h := h2 ht
      cases want <;> exact h
theorem ops_run {r' : List Oper} {F' : Fr} : ∀ {r : List Oper} {F : Fr}, runOps S N all r D F = (r', F') → sxOps S W M N all r' D F' H K → sxOps S W M N all r D F H K
  | [], F, h, hk => by
    simp only [runOps, Prod.mk.injEq] at h
    obtain ⟨rfl, rfl⟩ := h
    exact hk
  | o :: r, F, h, hk => by
    unfold runOps at h
    split at h
    · rename_i hs
      split at h
      · rename_i v hv
        exact ops_op (by rw [hs]; rfl) (pureOp_ok hv (ops_run h hk))
      · simp only [Prod.mk.injEq] at h
        obtain ⟨rfl, rfl⟩ := h
        exact hk
    · rename_i hs
      exact ops_skip hs (ops_run h hk)
    · simp only [Prod.mk.injEq] at h
      obtain ⟨rfl, rfl⟩ := h
      exact hk
end
def looks (F : Fr) : List Nat → Option (List Value)
  | [] => some []
  | t :: r => match look F t with
    | some v => match looks F r with
      | some vs => some (v :: vs)
      | none => none
    | none => none
def setF : List Nat → List Value → Fr → Fr
  | t :: ts, v :: vs, F => (t, some v) :: setF ts vs F
  | _, _, F => F
def forget : List Nat → Fr → Fr
  | [], F => F
  | t :: ts, F => (t, none) :: forget ts F
theorem look_forget (F : Fr) : ∀ (ts : List Nat) (t : Nat) (v : Value), look (forget ts F) t = some v → t ∉ ts ∧ look F t = some v
  | [], t, v, h => ⟨by simp, h⟩
  | s :: ts, t, v, h => by
    simp only [forget, look] at h
    cases hb : Nat.beq s t with
    | true => rw [hb] at h; cases h
    | false =>
      rw [hb] at h
      obtain ⟨h1, h2⟩ := look_forget F ts t v h
      refine ⟨?_, h2⟩
      intro hm
      rcases List.mem_cons.1 hm with e | e
      · subst e; simp at hb
      · exact h1 e
theorem look_setF (F : Fr) : ∀ (ts : List Nat) (vs : List Value) (t : Nat) (v : Value), look (setF ts vs F) t = some v → (∃ i : Nat, ts[i]? = some t ∧ vs[i]? = some v) ∨ look F t = some v
  | [], vs, t, v, h => .inr (by simpa [setF] using h)
  | s :: ts, [], t, v, h => .inr (by simpa [setF] using h)
  | s :: ts, u :: vs, t, v, h => by
    simp only [setF, look] at h
    cases hb : Nat.beq s t with
    | true =>
      rw [hb] at h
      left
      exact ⟨0, by simp [Nat.eq_of_beq_eq_true hb], by simpa using h⟩
    | false =>
      rw [hb] at h
      rcases look_setF F ts vs t v h with ⟨i, h1, h2⟩ | h1
      · exact .inl ⟨i + 1, by simpa using h1, by simpa using h2⟩
      · exact .inr h1
theorem looks_get {F : Fr} : ∀ {ts : List Nat} {vs : List Value}, looks F ts = some vs → ∀ (i : Nat) (t : Nat) (v : Value), ts[i]? = some t → vs[i]? = some v → look F t = some v
  | [], vs, h, i, t, v, hi, hv => by simp at hi
  | s :: ts, vs, h, i, t, v, hi, hv => by
    unfold looks at h
    split at h
    · rename_i u hu
      split at h
      · rename_i us hus
        simp only [Option.some.injEq] at h
        subst h
        cases i with
        | zero => simp at hi hv; subst hi; subst hv; exact hu
        | succ i => exact looks_get hus i t v (by simpa using hi) (by simpa using hv)
      · cases h
    · cases h
def memN (t : Nat) : List Nat → Bool
  | [] => false
  | s :: r => Nat.beq s t || memN t r
theorem memN_mem {t : Nat} : ∀ {l : List Nat}, memN t l = true → t ∈ l
  | [], h => by cases h
  | s :: r, h => by
    simp only [memN, Bool.or_eq_true] at h
    rcases h with h | h
    · simp [Nat.eq_of_beq_eq_true h]
    · simp [memN_mem h]
def Weak (H H' : Hp) : Prop := ∀ (W : World) (M : List Nat) (w : World), Sat W M H w → Sat W M H' w
theorem Weak.pick {H H' : Hp} {ks : List Nat} (hk : pickH H ks = some H') (hn : nodupB ks = true) : Weak H H' := fun _ _ _ hs => hs.pick hk hn
theorem Weak.trans {A B C : Hp} (h : Weak A B) (k : Weak B C) : Weak A C := fun W M w hs => k W M w (h W M w hs)
inductive SxRound {σ : Type} (slots : List Nat) (vals : σ → List Value) (hp : σ → Hp) (ok : σ → Prop) (μ : σ → Nat) (m : Nat) (F : Fr) (H : Hp) : Prop
  | via (s : σ) (hv : looks F slots = some (vals s)) (hw : Weak H (hp s)) (ho : ok s) (hm : μ s < m)
theorem SxRound.mk {σ : Type} {slots : List Nat} {vals : σ → List Value} {hp : σ → Hp} {ok : σ → Prop} {μ : σ → Nat} {m : Nat} {F : Fr} {H : Hp} (s : σ) (ks : List Nat) (hv : looks F slots = some (vals s)) (hk : pickH H ks = some (hp s)) (hn : nodupB ks = true) (ho : ok s) (hm : μ s < m) : SxRound slots vals hp ok μ m F H :=
  .via s hv (Weak.pick hk hn) ho hm
def loopQ {σ : Type} (slots : List Nat) (vals : σ → List Value) (hp : σ → Hp) (ok : σ → Prop) (μ : σ → Nat) (m : Nat) (Q : Exit → Fr → Hp → Prop) : Exit → Fr → Hp → Prop := fun e F' H' => match e with
      | .normal => SxRound slots vals hp ok μ m F' H'
      | e => Q e F' H'
section
variable {σ : Type} {slots : List Nat} {vals : σ → List Value} {hp : σ → Hp} {ok : σ → Prop} {μ : σ → Nat} {m : Nat} {Q : Exit → Fr → Hp → Prop} {F : Fr} {H : Hp}
theorem loopQ_n (h : SxRound slots vals hp ok μ m F H) : loopQ slots vals hp ok μ m Q .normal F H := h
theorem loopQ_e {i : Nat} (h : Q (.exit i) F H) : loopQ slots vals hp ok μ m Q (.exit i) F H := h
theorem loopQ_r (h : Q .ret F H) : loopQ slots vals hp ok μ m Q .ret F H := h
end
theorem SxCode.loop {σ : Type} {c : Code} {Q : Exit → Fr → Hp → Prop} {F : Fr} {H : Hp} (slots wr : List Nat) (vals : σ → List Value) (hp : σ → Hp) (ok : σ → Prop) (μ : σ → Nat) (s0 : σ) (ks : List Nat)
    (hwr : (writes c).all (fun t => memN t wr) = true) (hv : looks F slots = some (vals s0)) (hk : pickH H ks = some (hp s0)) (hn : nodupB ks = true) (h0 : ok s0)
    (hr : ∀ s, ok s → sx S W M N c (loopQ slots vals hp ok μ (μ s) Q) (setF slots (vals s) (forget wr F)) (hp s)) : SxCode S W M N (.loop c) Q F H := by
  have hsub : ∀ t ∈ writes c, t ∈ wr := fun t ht => memN_mem (List.all_eq_true.1 hwr t ht)
  refine ⟨fun a w ha hs => ?_⟩
  have agree : ∀ s a', Agree N F a → Same wr a a' → a'.tmps.size = N → a'.defers = [] → (∀ (i : Nat) t v, slots[i]? = some t → (vals s)[i]? = some v → a'.tmps.getD t undef = v) → Agree N (setF slots (vals s) (forget wr F)) a' := by
    intro s a' ha hsm hsz hdf hsl
    refine ⟨hsz, hdf, fun t v hl => ?_⟩
    rcases look_setF _ _ _ t v hl with ⟨i, h1, h2⟩ | h1
    · exact hsl i t v h1 h2
    · obtain ⟨h2, h3⟩ := look_forget F wr t v h1
      rw [hsm t h2]
      exact ha.slots t v h3
  -- a state that fits, and the greatest measure that it may have
  have I0 : ∃ s, ok s ∧ Agree N (setF slots (vals s) (forget wr F)) a ∧ Sat W M (hp s) w ∧ Same (writes c) a a ∧ μ s = μ s0 :=
    ⟨s0, h0, agree s0 a ha (Same.refl _ _) ha.size ha.defers (fun i t v h1 h2 => ha.slots t v (looks_get hv i t v h1 h2)), hs.pick hk hn, Same.refl _ _, rfl⟩
  have key : ∀ (n : Nat) (a1 : Act) (w1 : World) (s : σ), μ s = n → ok s → Agree N (setF slots (vals s) (forget wr F)) a1 → Sat W M (hp s) w1 → Same (writes c) a a1 → ∀ (b : Frame) (k : List Item) (cs : List Frame),
      ∃ e a' w', Lift W M N Q (writes (.loop c)) a e a' w' ∧ Arrives S.P (lone (b.at a1 (.code c :: .inLoop c :: k)) cs w1) b k cs e a' w' := by
    intro n
    induction n using Nat.strongRecOn with
    | _ n ih =>
      intro a1 w1 s hn ho ha1 hs1 hsm1 b k cs
      have h1 := sx_sound c _ _ _ (hr s ho) a1 w1 ha1 hs1
      obtain ⟨e, a2, w2, ⟨F2, H2, hq, ha2, hs2, hsm2⟩, harr⟩ := h1 b (.inLoop c :: k) cs
      have hsm : Same (writes c) a a2 := hsm1.trans hsm2 (fun _ h => h) (fun _ h => h)
      cases e with
      | normal =>
        cases hq with
        | via s' hv' hw' ho' hm' =>
          have hwrs : Same wr a a2 := hsm.trans (Same.refl [] _) hsub (by simp)
          have ha3 := agree s' a2 ha hwrs ha2.size ha2.defers (fun i t v h1 h2 => ha2.slots t v (looks_get hv' i t v h1 h2))
          obtain ⟨e3, a3, w3, hq3, harr3⟩ := ih (μ s') (hn ▸ hm') a2 w2 s' rfl ho' ha3 (hw' _ _ _ hs2) hsm b k cs
          exact ⟨e3, a3, w3, hq3, .of_steps (Steps.trans harr (.one step_inLoop)) harr3⟩
      | exit id => exact ⟨_, a2, w2, ⟨F2, H2, hq, ha2, hs2, hsm⟩, .pass (x := .inLoop c) rfl (fun _ _ => .inl (by simp)) harr⟩
      | goto l => exact ⟨_, a2, w2, ⟨F2, H2, hq, ha2, hs2, hsm⟩, .pass (x := .inLoop c) rfl (fun _ _ => .inl (by simp)) harr⟩
      | ret => exact ⟨_, a2, w2, ⟨F2, H2, hq, ha2, hs2, hsm⟩, .pass (x := .inLoop c) rfl (fun _ _ => .inl (by simp)) harr⟩
      | panic ch => exact ⟨_, a2, w2, ⟨F2, H2, hq, ha2, hs2, hsm⟩, .pass (x := .inLoop c) rfl (fun _ _ => .inl (by simp)) harr⟩
      | outgrown => exact ⟨_, a2, w2, ⟨F2, H2, hq, ha2, hs2, hsm⟩, .pass (x := .inLoop c) rfl (fun _ _ => .inl (by simp)) harr⟩
  obtain ⟨s, ho, ha1, hs1, hsm1, _⟩ := I0
  intro b k cs
  obtain ⟨e, a', w', hq, harr⟩ := key _ a w s rfl ho ha1 hs1 hsm1 b k cs
  exact ⟨e, a', w', hq, .of_steps (.one step_loop) harr⟩
inductive SxMeet {σ : Type} (slots : List Nat) (vals : σ → List Value) (hp : σ → Hp) (ok : σ → Prop) (F : Fr) (H : Hp) : Prop
  | via (s : σ) (hv : looks F slots = some (vals s)) (hw : Weak H (hp s)) (ho : ok s)
theorem SxMeet.mk {σ : Type} {slots : List Nat} {vals : σ → List Value} {hp : σ → Hp} {ok : σ → Prop} {F : Fr} {H : Hp} (s : σ) (ks : List Nat) (hv : looks F slots = some (vals s)) (hk : pickH H ks = some (hp s)) (hn : nodupB ks = true) (ho : ok s) : SxMeet slots vals hp ok F H :=
  .via s hv (Weak.pick hk hn) ho
def meetQ {σ : Type} (slots : List Nat) (vals : σ → List Value) (hp : σ → Hp) (ok : σ → Prop) (Q : Exit → Fr → Hp → Prop) : Exit → Fr → Hp → Prop := fun e F' H' => match e with
      | .normal => SxMeet slots vals hp ok F' H'
      | e => Q e F' H'
section
variable {σ : Type} {slots : List Nat} {vals : σ → List Value} {hp : σ → Hp} {ok : σ → Prop} {Q : Exit → Fr → Hp → Prop} {F : Fr} {H : Hp}
theorem meetQ_n (h : SxMeet slots vals hp ok F H) : meetQ slots vals hp ok Q .normal F H := h
theorem meetQ_e {i : Nat} (h : Q (.exit i) F H) : meetQ slots vals hp ok Q (.exit i) F H := h
theorem meetQ_r (h : Q .ret F H) : meetQ slots vals hp ok Q .ret F H := h
theorem meetQ_g {l : Nat} (h : Q (.goto l) F H) : meetQ slots vals hp ok Q (.goto l) F H := h
end
theorem sx_meet {σ : Type} {x y : Code} {Q : Exit → Fr → Hp → Prop} {F : Fr} {H : Hp} (slots wr : List Nat) (vals : σ → List Value) (hp : σ → Hp) (ok : σ → Prop)
    (hwr : (writes x).all (fun t => memN t wr) = true) (hx : sx S W M N x (meetQ slots vals hp ok Q) F H)
    (hy : ∀ s, ok s → sx S W M N y Q (setF slots (vals s) (forget wr F)) (hp s)) : sx S W M N (.seq x y) Q F H := by
  refine .inr ⟨fun a w ha hs => ?_⟩
  have hsub : ∀ t ∈ writes x, t ∈ wr := fun t ht => memN_mem (List.all_eq_true.1 hwr t ht)
  have h1 := sx_sound x _ _ _ hx a w ha hs
  refine wp_seq (wp_mono h1 fun e a' w' hl => ?_)
  obtain ⟨F', H', hq, ha', hs', hsm⟩ := hl
  have up : ∀ t ∈ writes x, t ∈ writes (.seq x y) := fun t ht => by simp [writes, ht]
  have up2 : ∀ t ∈ writes y, t ∈ writes (.seq x y) := fun t ht => by simp [writes, ht]
  cases e with
  | normal =>
    cases hq with
    | via s hv hw ho =>
      have hwrs : Same wr a a' := hsm.trans (Same.refl [] _) hsub (by simp)
      have ha3 : Agree N (setF slots (vals s) (forget wr F)) a' := by
        refine ⟨ha'.size, ha'.defers, fun t v hl => ?_⟩
        rcases look_setF _ _ _ t v hl with ⟨i, h1, h2⟩ | h1
        · exact ha'.slots t v (looks_get hv i t v h1 h2)
        · obtain ⟨h2, h3⟩ := look_forget F wr t v h1
          rw [hwrs t h2]
          exact ha.slots t v h3
      refine wp_mono (sx_sound y _ _ _ (hy s ho) a' w' ha3 (hw _ _ _ hs')) fun e2 a2 w2 hl2 => ?_
      obtain ⟨F2, H2, hq2, ha2, hs2, hsm2⟩ := hl2
      exact ⟨F2, H2, hq2, ha2, hs2, hsm.trans hsm2 up up2⟩
  | exit id => exact ⟨F', H', hq, ha', hs', hsm.trans (Same.refl [] _) up (by simp)⟩
  | goto l => exact ⟨F', H', hq, ha', hs', hsm.trans (Same.refl [] _) up (by simp)⟩
  | ret => exact ⟨F', H', hq, ha', hs', hsm.trans (Same.refl [] _) up (by simp)⟩
  | panic ch => exact ⟨F', H', hq, ha', hs', hsm.trans (Same.refl [] _) up (by simp)⟩
  | outgrown => exact ⟨F', H', hq, ha', hs', hsm.trans (Same.refl [] _) up (by simp)⟩
def falls : Code → Bool
  | .exit _ | .ret | .goto _ => false
  | .seq x y => falls x && falls y
  | .cond _ x y => falls x || falls y
  | _ => true
def forks : Code → Bool
  | .seq x y => forks x || forks y
  | .cond _ x y => (falls x && falls y) || forks x || forks y
  | .block _ c => hasIf c
  | _ => false
where hasIf : Code → Bool
  | .seq x y => hasIf x || hasIf y
  | .cond _ _ _ => true
  | .block _ c => hasIf c
  | _ => false
theorem sx_seqN {x y : Code} {Q : Exit → Fr → Hp → Prop} {F : Fr} {H : Hp} (_hf : forks x = false) (h : sx S W M N x (seqQ S W M N y Q) F H) : sx S W M N (.seq x y) Q F H := .inl h
end
attribute [irreducible] sx sxOps seqQ blockQ loopQ meetQ
end Go.Proofs.YtlmefcepdadfjaaGreat

/- A symbolic walk: a region that draws its order. No program is named here. -/
import Derived.OrdersHeld
import Derived.Test.YtlmefcepdadfjaaGreatZSxI
namespace Go.Proofs.YtlmefcepdadfjaaGreat
open Go.RowKit

def spoilt (sp : List Nat) (listed : Array Bool) : Bool := sp.any fun s => listed.getD s false
section
variable {P : Program} {ops : Array Oper} {Q : Exit → Act → World → Prop} {S0 : World → Prop} {sp : List Nat}
def wpAnyX (P : Program) (ops : Array Oper) (Q : Exit → Act → World → Prop) (S0 : World → Prop) (sp : List Nat) : Nat → Array Bool → Act → World → Prop
  | 0, listed, a, w => Region.ready .any ops listed = [] ∧ Q .normal a w
  | fuel + 1, listed, a, w =>
    (Region.ready .any ops listed = [] → Q .normal a w) ∧
    ∀ i ∈ Region.ready .any ops listed, wpOp P ops Q i (fun a' w' => (spoilt sp (listed.setIfInBounds i true) = true ∨ S0 w') ∧ wpAnyX P ops Q S0 sp fuel (listed.setIfInBounds i true) a' w') a w
theorem wpAny_of_X : ∀ (fuel : Nat) (listed : Array Bool) (a : Act) (w : World), wpAnyX P ops Q S0 sp fuel listed a w → wpAny P .any ops Q fuel listed a w
  | 0, _, _, _, h => h
  | fuel + 1, _, _, _, h => ⟨h.1, fun i hi => wpOp_mono (fun a' w' h' => wpAny_of_X fuel _ a' w' h'.2) (h.2 i hi)⟩
def waits (ops : Array Oper) (sp : List Nat) (i : Nat) : Bool := sp.all fun s => match ops[s]? with
  | some o => o.after.any fun e => Region.binds .any e && e.on == i
  | none => false
theorem not_spoilt {i j : Nat} {listed : Array Bool} (hw : waits ops sp i = true) (hi : listed.getD i false = false) (hj : j ∈ Region.ready .any ops listed) (hs : spoilt sp listed = false) : spoilt sp (listed.setIfInBounds j true) = false := by
  unfold spoilt at *
  rw [List.any_eq_false] at *
  intro s hsm
  by_cases hsj : j = s
  · subst hsj
    exfalso
    have h1 := List.all_eq_true.1 hw j hsm
    obtain ⟨_, o, ho, hall⟩ := mem_ready.1 hj
    rw [ho] at h1
    obtain ⟨e, he, hb⟩ := Array.any_eq_true'.1 h1
    simp only [Bool.and_eq_true, beq_iff_eq] at hb
    have := hall e he hb.1
    rw [hb.2, hi] at this
    cases this
  · rw [getD_set_ne false hsj]; exact hs s hsm
theorem spoilt_ne {i : Nat} {listed : Array Bool} (hni : memN i sp = false) : spoilt sp (listed.setIfInBounds i true) = spoilt sp listed := by
  unfold spoilt
  have key : ∀ l : List Nat, memN i l = false → (l.any fun s => (listed.setIfInBounds i true).getD s false) = l.any fun s => listed.getD s false := by
    intro l
    induction l with
    | nil => intro _; rfl
    | cons s l ih =>
      intro h
      simp only [memN, Bool.or_eq_false_iff] at h
      have hne : i ≠ s := fun e => by subst e; simp at h
      rw [List.any_cons, List.any_cons, ih h.2, getD_set_ne false hne]
  exact key sp hni
theorem wpAnyX_first {i : Nat} {oi : Oper} {v : Value} (hi : ops[i]? = some oi) (hsel : ∀ (j : Nat) (o : Oper) cs b, ops[j]? = some o → o.op ≠ .select cs b)
    (hQ : ∀ c a w, Q (.panic c) (a.put oi.dst v) w → Q (.panic c) a w) (S1 : World → Prop)
    (hni : memN i sp = false) (hS1 : (∀ w, S1 w) ∨ (waits ops sp i = true ∧ ∀ w, S0 w → S1 w)) :
    ∀ (fuel : Nat) (listed : Array Bool) (a : Act) (w : World),
      (∀ j oj, ops[j]? = some oj → j ≠ i → listed.getD j true = false → (∀ e ∈ oj.after, Region.binds .any e = true → e.on ≠ i) → oi.apart ops oj = true) →
      i ∈ Region.ready .any ops listed → YieldsIf P ops S1 oi v a → (spoilt sp listed = false ∨ ∀ w, S1 w) → (spoilt sp listed = true ∨ S0 w) →
      wpAnyX P ops Q S0 sp fuel (listed.setIfInBounds i true) (a.put oi.dst v) w → wpAnyX P ops Q S0 sp (fuel + 1) listed a w := by
  have s1 : ∀ (listed : Array Bool) (w : World), (spoilt sp listed = false ∨ ∀ w, S1 w) → (spoilt sp listed = true ∨ S0 w) → S1 w := by
    intro listed w h1 h2
    rcases hS1 with h | ⟨_, h⟩
    · exact h w
    · rcases h1 with h1 | h1
      · rcases h2 with h2 | h2
        · rw [h1] at h2; cases h2
        · exact h w h2
      · exact h1 w
  intro fuel
  induction fuel with
  | zero =>
    intro listed a w _ hr hy h1 h2 H
    refine ⟨fun h => (by rw [h] at hr; cases hr), fun j hj => ?_⟩
    by_cases hji : j = i
    · subst hji; exact hy.wpOp hi (s1 listed w h1 h2) ⟨by rw [spoilt_ne hni]; exact h2, H⟩
    · have := ready_mono hj hji
      rw [H.1] at this
      cases this
  | succ fuel ih =>
    intro listed a w hfree hr hy hsp hS0 H
    refine ⟨fun h => (by rw [h] at hr; cases hr), fun j hj => ?_⟩
    by_cases hji : j = i
    · subst hji; exact hy.wpOp hi (s1 listed w hsp hS0) ⟨by rw [spoilt_ne hni]; exact hS0, H⟩
    · have h1 := H.2 j (ready_mono hj hji)
      obtain ⟨hjun, oj, hoj, hall⟩ := mem_ready.1 hj
      have hiun : listed.getD i true = false := (mem_ready.1 hr).1
      have hiun' : listed.getD i false = false := by
        rcases Nat.lt_or_ge i listed.size with h' | h'
        · simp [h'] at hiun ⊢; exact hiun
        · simp [Array.getElem?_eq_none h'] at hiun
      have hnot : ∀ e ∈ oj.after, Region.binds .any e = true → e.on ≠ i := fun e he hb heq => by
        have h1 := hall e he hb
        rw [heq, hiun'] at h1
        cases h1
      have h2 := wpOp_putIf (S := S1) hoj (hfree j oj hoj hji hjun hnot) (fun cs b => hsel i oi cs b hi) (fun cs b => hsel j oj cs b hoj) hQ hy h1
      have hfree' : ∀ k ok, ops[k]? = some ok → k ≠ i → (listed.setIfInBounds j true).getD k true = false →
          (∀ e ∈ ok.after, Region.binds .any e = true → e.on ≠ i) → oi.apart ops ok = true := fun k ok hk hki hun hno => by
        refine hfree k ok hk hki ?_ hno
        by_cases hjk : j = k
        · subst hjk; exact hjun
        · rw [getD_set_ne true hjk] at hun; exact hun
      refine wpOp_mono (fun a' w' h3 => ?_) h2
      obtain ⟨hy', hs', hk⟩ := h3
      have hcomm : (listed.setIfInBounds i true).setIfInBounds j true = (listed.setIfInBounds j true).setIfInBounds i true := Array.setIfInBounds_comm _ _ (Ne.symm hji)
      rw [hcomm] at hs' hk
      have hsp' : spoilt sp (listed.setIfInBounds j true) = false ∨ ∀ w, S1 w := by
        rcases hS1 with h | ⟨hw, _⟩
        · exact .inr h
        · rcases hsp with h | h
          · exact .inl (not_spoilt hw hiun' hj h)
          · exact .inr h
      rw [spoilt_ne hni] at hs'
      exact ⟨hs', ih (listed.setIfInBounds j true) a' w' hfree' (ready_mono hr (Ne.symm hji)) hy' hsp' hs' hk⟩
end
section
variable {S : Sx} {W : World} {M : List Nat} {N : Nat}
def KQ (W : World) (M : List Nat) (N : Nat) (wr : List Nat) (a0 : Act) (K : Fr → Hp → Prop) : Exit → Act → World → Prop := fun e a w => match e with
  | .normal => ∃ F H, K F H ∧ Agree N F a ∧ Sat W M H w ∧ Same wr a0 a
  | _ => False
inductive SxAny (S : Sx) (W : World) (M : List Nat) (N : Nat) (ops : List Oper) (Hs : Hp) (sp : List Nat) (D : List (Nat × Bool)) (listed : List Bool) (F : Fr) (H : Hp) (K : Fr → Hp → Prop) : Prop
  | mk (h : ∀ a0 wr, (∀ o ∈ ops, ∀ t, o.dst = some t → t ∈ wr) → ∀ a w, Agree N F a → Sat W M H w → Same wr a0 a → (spoilt sp listed.toArray = true ∨ Sat W M Hs w) → wpAnyX S.P ops.toArray (KQ W M N wr a0 K) (Sat W M Hs) sp (unlisted listed.toArray) listed.toArray a w)
def allE (p : Edge → Bool) : List Edge → Bool
  | [] => true
  | e :: r => p e && allE p r
def anyE (p : Edge → Bool) : List Edge → Bool
  | [] => false
  | e :: r => p e || anyE p r
theorem allE_eq (p : Edge → Bool) (l : Array Edge) : allE p l.toList = l.all p := by
  rw [← Array.all_toList]
  induction l.toList with
  | nil => rfl
  | cons e r ih => simp [allE, ih]
theorem anyE_eq (p : Edge → Bool) (l : Array Edge) : anyE p l.toList = l.any p := by
  rw [← Array.any_toList]
  induction l.toList with
  | nil => rfl
  | cons e r ih => simp [anyE, ih]
def getL : List Bool → Nat → Bool → Bool
  | [], _, d => d
  | b :: _, 0, _ => b
  | _ :: r, n + 1, d => getL r n d
theorem getL_eq : ∀ (l : List Bool) (i : Nat) (d : Bool), getL l i d = l.toArray.getD i d
  | [], i, d => by simp [getL]
  | b :: r, 0, d => by simp [getL]
  | b :: r, i + 1, d => by
    have := getL_eq r i d
    simp only [getL, this]
    simp [Array.getD]
def bindsB (e : Edge) : Bool := match e.ground with
  | .textOnly _ => false
  | .gcOnly _ => false
  | _ => true
theorem bindsB_eq (e : Edge) : bindsB e = Region.binds .any e := by
  obtain ⟨o, g⟩ := e
  cases g <;> rfl
def upTo : Nat → Nat → List Nat
  | _, 0 => []
  | k, n + 1 => k :: upTo (k + 1) n
theorem upTo_eq : ∀ (n k : Nat), upTo k n = List.range' k n
  | 0, k => rfl
  | n + 1, k => by rw [upTo, upTo_eq n (k + 1), List.range'_succ]
def readyOne (ops : List Oper) (L : List Bool) (i : Nat) : Bool := !(getL L i true) && (match nthO ops i with
  | some o => allE (fun e => !bindsB e || getL L e.on false) o.after.toList
  | none => false)
def filt (p : Nat → Bool) : List Nat → List Nat
  | [] => []
  | i :: r => bif p i then i :: filt p r else filt p r
theorem filt_eq (p : Nat → Bool) (l : List Nat) : filt p l = l.filter p := by
  induction l with
  | nil => rfl
  | cons i r ih => cases h : p i <;> simp [filt, h, ih]
def readyLs (ops : List Oper) (L : List Bool) : List Nat := filt (readyOne ops L) (upTo 0 ops.length)
theorem readyOne_eq (ops : List Oper) (L : List Bool) (i : Nat) : readyOne ops L i = (!L.toArray.getD i true && ((ops.toArray[i]?).map (·.after.all fun e => !Region.binds .any e || L.toArray.getD e.on false)).getD false) := by
  unfold readyOne
  rw [getL_eq, nthO_eq, List.getElem?_toArray]
  congr 1
  cases ops[i]? with
  | none => rfl
  | some o =>
    simp only [Option.map_some, Option.getD_some, allE_eq]
    congr 1
    funext e
    rw [bindsB_eq, getL_eq]
theorem readyLs_eq (ops : List Oper) (L : List Bool) : readyLs ops L = Region.ready .any ops.toArray L.toArray := by
  unfold readyLs Region.ready
  rw [filt_eq, upTo_eq, List.range_eq_range', List.size_toArray]
  congr 1
  funext i
  exact readyOne_eq ops L i
def readyB (ops : List Oper) (listed : List Bool) (i : Nat) : Bool := readyOne ops listed i
theorem readyB_mem {ops : List Oper} {L : List Bool} {i : Nat} (h : readyB ops L i = true) : i ∈ Region.ready .any ops.toArray L.toArray := by
  unfold readyB at h
  rw [readyOne_eq] at h
  unfold Region.ready
  rw [List.mem_filter, List.mem_range]
  refine ⟨?_, h⟩
  rw [List.size_toArray]
  rcases Nat.lt_or_ge i ops.length with hi | hi
  · exact hi
  · simp [hi] at h
def tmpsOf : List Operand → List Nat
  | [] => []
  | .tmp t :: r => t :: tmpsOf r
  | _ :: r => tmpsOf r
theorem tmpsOf_eq (l : List Operand) : tmpsOf l = l.filterMap fun | .tmp t => some t | _ => none := by
  induction l with
  | nil => rfl
  | cons x r ih => cases x <;> simp [tmpsOf, ih]
def looksL (ops : List Oper) (o : Oper) : List Nat := tmpsOf o.op.operands.toList ++ (match o.guard with
  | some (g, _) => match gdst ops g with | some d => [d] | none => []
  | none => [])
theorem looksL_eq (ops : List Oper) (o : Oper) : looksL ops o = o.looksAt ops.toArray := by
  unfold looksL Oper.looksAt
  rw [tmpsOf_eq]
  congr 1
  cases o.guard with
  | none => rfl
  | some gw =>
    obtain ⟨g, want⟩ := gw
    simp only [gdst, nthO_eq, List.getElem?_toArray]
    cases ops[g]? with
    | none => rfl
    | some x => simp only [Option.bind_some]; cases x.dst <;> rfl
theorem memN_contains (t : Nat) (l : List Nat) : memN t l = l.contains t := by
  induction l with
  | nil => rfl
  | cons s r ih =>
    simp only [memN, List.contains_cons, ih]
    congr 1
    rw [Bool.eq_iff_iff]
    simp only [beq_iff_eq]
    constructor
    · intro h; exact (Nat.eq_of_beq_eq_true h).symm
    · intro h; rw [h]; simp
def eqO : Option Nat → Option Nat → Bool
  | some a, some b => Nat.beq a b
  | none, none => true
  | _, _ => false
def apartL (ops : List Oper) (x y : Oper) : Bool :=
  (match x.dst with
   | some d => !(memN d (looksL ops y)) && !(eqO y.dst (some d))
   | none => true) &&
  (match y.dst with
   | some d => !(memN d (looksL ops x))
   | none => true)
theorem eqO_bne (a : Option Nat) (d : Nat) : (!(eqO a (some d))) = (a != some d) := by
  cases a with
  | none => rfl
  | some a =>
    simp only [eqO, bne]
    congr 1
    rw [Bool.eq_iff_iff]
    simp only [beq_iff_eq, Option.some.injEq]
    exact ⟨Nat.eq_of_beq_eq_true, fun h => by rw [h]; simp⟩
theorem apartL_eq (ops : List Oper) (x y : Oper) : apartL ops x y = x.apart ops.toArray y := by
  unfold apartL Oper.apart
  cases x.dst <;> cases y.dst <;> simp only [looksL_eq, memN_contains, eqO_bne]
def allN (p : Nat → Bool) : List Nat → Bool
  | [] => true
  | i :: r => p i && allN p r
theorem allN_eq (p : Nat → Bool) (l : List Nat) : allN p l = l.all p := by
  induction l with
  | nil => rfl
  | cons i r ih => simp [allN, ih]
def freeOne (ops : List Oper) (L : List Bool) (i : Nat) : Bool := match nthO ops i with
  | none => false
  | some oi => allN (fun j => Nat.beq j i || getL L j true || (match nthO ops j with
      | some oj => anyE (fun e => bindsB e && Nat.beq e.on i) oj.after.toList || apartL ops oi oj
      | none => true)) (upTo 0 ops.length)
theorem natbeq_eq (a b : Nat) : Nat.beq a b = (a == b) := by
  rw [Bool.eq_iff_iff]
  simp only [beq_iff_eq]
  exact ⟨Nat.eq_of_beq_eq_true, fun h => by rw [h]; simp⟩
theorem freeOne_eq (ops : List Oper) (L : List Bool) (i : Nat) : freeOne ops L i = Region.free .any ops.toArray L.toArray i := by
  unfold freeOne Region.free
  rw [nthO_eq, List.getElem?_toArray]
  cases ops[i]? with
  | none => rfl
  | some oi =>
    simp only [allN_eq, upTo_eq, List.range_eq_range', List.size_toArray]
    congr 1
    funext j
    rw [getL_eq, nthO_eq, List.getElem?_toArray, natbeq_eq]
    congr 1
    cases ops[j]? with
    | none => rfl
    | some oj =>
      simp only [anyE_eq, apartL_eq]
      congr 2
      funext e
      rw [bindsB_eq, natbeq_eq]
def freeB (ops : List Oper) (listed : List Bool) (i : Nat) : Bool := freeOne ops listed i && !(getL listed i true)
theorem freeB_get {ops : List Oper} {L : List Bool} {i : Nat} (h : freeB ops L i = true) : Region.free .any ops.toArray L.toArray i = true ∧ L.toArray.getD i true = false := by
  unfold freeB at h
  rw [Bool.and_eq_true, Bool.not_eq_true', freeOne_eq, getL_eq] at h
  exact h
def noSel : List Oper → Bool
  | [] => true
  | o :: r => (match o.op with | .select _ _ => false | _ => true) && noSel r
theorem noSel_eq (ops : List Oper) : noSel ops = Region.noSelect ops.toArray := by
  unfold Region.noSelect
  rw [← Array.all_toList]
  simp only
  induction ops with
  | nil => rfl
  | cons o r ih => simp only [noSel, List.all_cons, ih]; rfl
def waitsL (ops : List Oper) (sp : List Nat) (i : Nat) : Bool := allN (fun s => match nthO ops s with
  | some o => anyE (fun e => bindsB e && Nat.beq e.on i) o.after.toList
  | none => false) sp
theorem waitsL_eq (ops : List Oper) (sp : List Nat) (i : Nat) : waitsL ops sp i = waits ops.toArray sp i := by
  unfold waitsL waits
  rw [allN_eq]
  congr 1
  funext s
  rw [nthO_eq, List.getElem?_toArray]
  cases ops[s]? with
  | none => rfl
  | some o =>
    simp only [anyE_eq]
    congr 1
    funext e
    rw [bindsB_eq, natbeq_eq]
def spoiltL (sp : List Nat) (L : List Bool) : Bool := match sp with
  | [] => false
  | s :: r => getL L s false || spoiltL r L
theorem spoiltL_eq : ∀ (sp : List Nat) (L : List Bool), spoiltL sp L = spoilt sp L.toArray
  | [], L => rfl
  | s :: r, L => by
    have := spoiltL_eq r L
    unfold spoilt at *
    simp only [spoiltL, getL_eq, this, List.any_cons]
def falses : List Oper → List Bool
  | [] => []
  | _ :: r => false :: falses r
theorem falses_eq (l : List Oper) : falses l = List.replicate l.length false := by
  induction l with
  | nil => rfl
  | cons o r ih => simp [falses, ih, List.replicate_succ]
def setB : List Bool → Nat → List Bool
  | [], _ => []
  | _ :: r, 0 => true :: r
  | b :: r, n + 1 => b :: setB r n
theorem setB_eq : ∀ (l : List Bool) (i : Nat), setB l i = l.set i true
  | [], i => rfl
  | b :: r, 0 => rfl
  | b :: r, i + 1 => by simp [setB, setB_eq r i]
theorem set_list (l : List Bool) (i : Nat) : (setB l i).toArray = l.toArray.setIfInBounds i true := by rw [setB_eq]; simp
section
variable {ops : List Oper} {Hs H : Hp} {sp : List Nat} {listed : List Bool} {F : Fr} {K : Fr → Hp → Prop} {D : List (Nat × Bool)} {i : Nat} {o : Oper} {v : Value}
theorem yields_run {o : Oper} {v : Value} {a : Act} {w : World} (h : pureOp S F o.op = some v) (ha : Agree N F a) : (execOp a.eval o).run S.P w = .ok (.value v) w := by
  obtain ⟨dst, op, ty, pos, after, guard⟩ := o
  dsimp only at h
  cases op
  case move x => simp only [pureOp] at h; simp [execOp, ev_eval ha h]
  case assign x => simp only [pureOp] at h; simp [execOp, ev_eval ha h]
  case pick c x y =>
    simp only [pureOp] at h
    split at h
    · rename_i hc; simp [execOp, ev_eval ha hc, ev_eval ha h, asBool]
    · rename_i hc; simp [execOp, ev_eval ha hc, ev_eval ha h, asBool]
    · cases h
  case binOp b t x y yt =>
    have hh : sxBin S b t x y (a.eval x) (a.eval y) fun r => r = v := by
      simp only [pureOp] at h
      split at h
      · rename_i k m k' n hx hy
        rw [ev_eval ha hx, ev_eval ha hy]
        simp only [sxBin]
        cases hs : isShift b with
        | true => rw [hs] at h; cases h
        | false =>
          rw [hs] at h
          simp only [cond_false] at h ⊢
          cases hk : sameK k k' with
          | false => rw [hk] at h; cases h
          | true =>
            rw [hk] at h
            simp only [cond_true] at h ⊢
            cases b <;> simp only [bitV, cmpV, Option.some.injEq, reduceCtorEq] at h <;> exact h
      · rename_i m n hx hy
        rw [ev_eval ha hx, ev_eval ha hy]
        simp only [sxBin]
        cases b <;> simp only [strV, Option.some.injEq, reduceCtorEq] at h <;> exact h
      · cases h
    obtain ⟨r, rfl, hr⟩ := sxBin_run hh
    simp only [execOp]
    rw [Sem.run_bind, hr w]
    rfl
  case unOp b t x =>
    cases b <;> simp only [pureOp, reduceCtorEq] at h
    split at h
    · rename_i b hb; rw [← Option.some.inj h]; simp [execOp, ev_eval ha hb, Op.unary]
    · cases h
  case fieldAddr t x f =>
    simp only [pureOp] at h
    split at h
    · rename_i fs g off hd hx
      split at h
      · rename_i d n hp
        cases hn : Nat.blt 0 n with
        | false => rw [hn] at h; cases h
        | true =>
          rw [hn] at h
          rw [← Option.some.inj h]
          have hn' : n ≠ 0 := by have : 0 < n := by simpa using hn
                                 omega
          obtain ⟨l, hl1, hl2⟩ := Sx.ustruct hd
          subst hl2
          unfold placeF at hp
          split at hp
          · rename_i fo ft hf
            rw [nthF_eq, List.getElem?_map, Array.getElem?_toList] at hf
            obtain ⟨y, hy1, hy2⟩ := Option.map_eq_some_iff.1 hf
            simp only [Prod.mk.injEq] at hy2
            obtain ⟨rfl, rfl⟩ := hy2
            split at hp
            · rename_i k hk
              simp only [Option.some.injEq, Prod.mk.injEq] at hp
              obtain ⟨rfl, rfl⟩ := hp
              simp [execOp, Instr.fieldAt, run_underlying hl1, hy1, ev_eval ha hx, Instr.sureAddr, fieldPlace, run_size hk, hn', Addr.add_lit]
            · cases hp
          · cases hp
      · cases h
    · cases h
  case nilCheck x =>
    simp only [pureOp] at h
    split at h
    · rename_i ad hx; rw [← Option.some.inj h]; simp [execOp, ev_eval ha hx]
    · rename_i f first captured hx; rw [← Option.some.inj h]; simp [execOp, ev_eval ha hx]
    · cases h
  case extract x i =>
    simp only [pureOp] at h
    split at h
    · rename_i vs hv
      rw [nthV_eq, Array.getElem?_toList] at h
      simp [execOp, ev_eval ha hv, Instr.extract, h]
    · cases h
  case makeFunc fn first captured =>
    simp only [pureOp] at h
    split at h
    · rename_i u v hu hv
      have h1 : first.map a.eval = u.toArray := by apply Array.ext'; rw [Array.toList_map, evs_eval ha hu]
      have h2 : captured.map a.eval = v.toArray := by apply Array.ext'; rw [Array.toList_map, evs_eval ha hv]
      rw [← Option.some.inj h]
      simp [execOp, Instr.makeFunc, h1, h2]
    · cases h
  case call c =>
    obtain ⟨callee, args, tys⟩ := c
    simp only [pureOp] at h
    split at h
    · rename_i t r v ht hvs
      have hargs : args.map a.eval = #[v] := by apply Array.ext'; rw [Array.toList_map, evs_eval ha hvs]
      have htys : tys = (t :: r).toArray := by apply Array.ext'; rw [ht]
      split at h
      · rename_i d hd
        unfold lenV at h
        split at h
        · rename_i s; rw [← Option.some.inj h]; simp [execOp, resolve, invoke, hargs, htys, builtin, Builtin.len_, run_str hd, goInt]
        · rename_i e ao n cap; rw [← Option.some.inj h]; simp [execOp, resolve, invoke, hargs, htys, builtin, Builtin.len_, run_sl hd, goInt]
        · rename_i n e; rw [← Option.some.inj h]; simp [execOp, resolve, invoke, hargs, htys, builtin, Builtin.len_, run_arr hd, goInt]
        · cases h
      · cases h
    · cases h
  case convert src dst x =>
    simp only [pureOp] at h
    split at h
    · rename_i s h1 h2 h3; rw [← Option.some.inj h]; simp [execOp, ev_eval ha h3, convert, run_str h1, run_str h2]
    · cases h
  all_goals (simp only [pureOp, reduceCtorEq] at h)
theorem wanted_of {all : List Oper} {o : Oper} {D : List (Nat × Bool)} {a : Act} (ha : Agree N F a) :
    (status N all o D F = 2 → Region.wanted o (yielded all.toArray a.tmps) = true) ∧ (status N all o D F = 1 → Region.wanted o (yielded all.toArray a.tmps) = false) := by
  unfold status
  cases hd : dstOk N o.dst with
  | false => exact ⟨fun h => (by cases h), fun h => (by cases h)⟩
  | true =>
    simp only [cond_true]
    split
    · rename_i hg; exact ⟨fun _ => by simp [Region.wanted, hg], fun h => (by cases h)⟩
    · rename_i j want hg
      split
      · rename_i d hgd
        split
        · rename_i t hl
          have hy := yielded_of ha hgd hl
          split
          · rename_i b hD
            cases h1 : sameB t b with
            | false => exact ⟨fun h => (by cases h), fun h => (by cases h)⟩
            | true =>
              obtain rfl := sameB_eq h1
              simp only [cond_true]
              cases h2 : sameB t want with
              | true => obtain rfl := sameB_eq h2; exact ⟨fun _ => by simp [Region.wanted, hg, hy], fun h => (by cases h)⟩
              | false =>
                refine ⟨fun h => (by cases h), fun _ => ?_⟩
                cases t <;> cases want <;> first | (simp [Region.wanted, hg, hy]; done) | cases h2
          · exact ⟨fun h => (by cases h), fun h => (by cases h)⟩
        · rename_i vs hl
          exact ⟨fun h => (by cases h), fun _ => by simp [Region.wanted, hg, yielded_no ha hgd hl]⟩
        · exact ⟨fun h => (by cases h), fun h => (by cases h)⟩
      · exact ⟨fun h => (by cases h), fun h => (by cases h)⟩
theorem status_dst {all : List Oper} {o : Oper} {D : List (Nat × Bool)} {n : Nat} (h : status N all o D F = n + 1) : dstOk N o.dst = true := by
  unfold status at h
  cases hd : dstOk N o.dst with
  | false => rw [hd] at h; cases h
  | true => rfl
theorem KQ_panic {wr : List Nat} {a0 : Act} {d : Option Nat} {u : Value} : ∀ c a w, KQ W M N wr a0 K (.panic c) (a.put d u) w → KQ W M N wr a0 K (.panic c) a w := fun _ _ _ h => h
theorem any_take (hi : nthO ops i = some o) (hns : noSel ops = true) (hf : freeB ops listed i = true) (hr : readyB ops listed i = true) (hni : memN i sp = false)
    (hy : ∀ a, Agree N F a → Yields S.P ops.toArray o v a) (hd : dstOk N o.dst = true) (h : SxAny S W M N ops Hs sp D (setB listed i) (upd o.dst v F) H K) : SxAny S W M N ops Hs sp D listed F H K := by
  refine ⟨fun a0 wr hwr a w ha hs hsm hsp => ?_⟩
  have ho : ops.toArray[i]? = some o := by rw [List.getElem?_toArray, ← nthO_eq]; exact hi
  replace hf := freeB_get hf
  have hun : listed.toArray.getD i true = false := hf.2
  have h1 := unlisted_set hun
  rw [← h1]
  have hm : o ∈ ops := by rw [nthO_eq] at hi; exact List.mem_of_getElem? hi
  refine wpAnyX_first ho (Region.noSelect_spec (by rw [← noSel_eq]; exact hns)) KQ_panic (fun _ => True) hni (.inl fun _ => trivial) _ _ a w (Region.free_spec ho hf.1) (readyB_mem hr) (hy a ha).yieldsIf (.inr fun _ => trivial) hsp ?_
  cases h with
  | mk h =>
    rw [← set_list]
    exact h a0 wr hwr _ w (ha.put hd v) hs (hsm.put (hwr o hm) v) (by rw [set_list, spoilt_ne hni]; exact hsp)
theorem any_pure (hi : nthO ops i = some o) (hns : noSel ops = true) (hf : freeB ops listed i = true) (hr : readyB ops listed i = true) (hni : memN i sp = false)
    (hst : status N ops o D F = 2) (hv : pureOp S F o.op = some v) (h : SxAny S W M N ops Hs sp D (setB listed i) (upd o.dst v F) H K) : SxAny S W M N ops Hs sp D listed F H K :=
  any_take hi hns hf hr hni (fun _a ha => .inl ⟨(wanted_of ha).1 hst, fun _w => yields_run hv ha⟩) (status_dst hst) h
theorem any_skip (hi : nthO ops i = some o) (hns : noSel ops = true) (hf : freeB ops listed i = true) (hr : readyB ops listed i = true) (hni : memN i sp = false)
    (hst : status N ops o D F = 1) (h : SxAny S W M N ops Hs sp D (setB listed i) (upd o.dst undef F) H K) : SxAny S W M N ops Hs sp D listed F H K :=
  any_take hi hns hf hr hni (fun _a ha => .inr ⟨(wanted_of ha).2 hst, rfl⟩) (status_dst hst) h
def stillOp : Op → Bool
  | .move _ | .assign _ | .pick _ _ _ | .binOp _ _ _ _ _ | .unOp _ _ _ | .build _ _ | .load _ _ | .nilCheck _ | .fieldAddr _ _ _ | .indexAddr _ _ _ | .index _ _ _ | .field _ _ _ | .extract _ _ | .makeFunc _ _ _ | .slice _ _ _ _ none => true
  | .call c => match c.callee with
    | .builtin .len | .builtin .min | .builtin .max | .builtin .real | .builtin .imag | .builtin .complex => true
    | _ => false
  | _ => false
theorem SxStr.still {P : Program} {H : Hp} {ao : Option Addr} {n cap : Nat} {A : List UInt8 → Prop} (h : SxStr H ao n A) (src dst e : TypeId) (h1 : P.underlying src = some (.slice e)) (h2 : P.underlying e = some (.int .u8)) (h3 : P.underlying dst = some .string) :
    ∃ l, A l ∧ ∀ w, Sat W M H w → (convert src dst (.slice ao n cap)).run P w = .ok (.string ⟨l.toArray⟩) w := by
  cases h with
  | rd p hp l hn hl h =>
    refine ⟨l, h, fun w hs => ?_⟩
    obtain ⟨l', e', hr⟩ := (SxStr.rd (A := fun x => x = l) p hp l hn hl rfl).get (P := P) (cap := cap) hs src dst e h1 h2 h3
    subst e'; exact hr
  | blk p ha hp l hn hl h =>
    refine ⟨l, h, fun w hs => ?_⟩
    obtain ⟨l', e', hr⟩ := (SxStr.blk (A := fun x => x = l) p ha hp l hn hl rfl).get (P := P) (cap := cap) hs src dst e h1 h2 h3
    subst e'; exact hr
  | row p hp l hn hl h =>
    refine ⟨l, h, fun w hs => ?_⟩
    obtain ⟨l', e', hr⟩ := (SxStr.row (A := fun x => x = l) p hp l hn hl rfl).get (P := P) (cap := cap) hs src dst e h1 h2 h3
    subst e'; exact hr
def stillConv (S : Sx) (o : Op) : Bool := match o with
  | .convert src dst _ => match S.desc src, S.desc dst with
    | some .string, some (.slice _) => false
    | _, _ => true
  | o => stillOp o
theorem still_run {o : Oper} {A : Value → Hp → Prop} (hst : stillConv S o.op = true) (h : sxOp S W M N o F H A) {w0 : World} (hs0 : Sat W M H w0) {a0 : Act} (_ha0 : Agree N F a0) :
    ∃ v, A v H ∧ ∀ a w, Agree N F a → Sat W M H w → (execOp a.eval o).run S.P w = .ok (.value v) w := by
  obtain ⟨dst, op, ty, pos, after, guard⟩ := o
  cases op <;> simp only [stillConv, stillOp, Bool.false_eq_true] at hst
  case move x =>
    simp only [sxOp] at h
    split at h
    · rename_i v hv; exact ⟨v, h, fun a w ha _ => by simp [execOp, ev_eval ha hv]⟩
    · exact h.elim
  case assign x =>
    simp only [sxOp] at h
    split at h
    · rename_i v hv; exact ⟨v, h, fun a w ha _ => by simp [execOp, ev_eval ha hv]⟩
    · exact h.elim
  case pick c x y =>
    simp only [sxOp] at h
    split at h
    · rename_i t ht
      cases h with
      | mk h1 h2 =>
        cases t with
        | true =>
          have h := h1 rfl
          split at h
          · rename_i v hv; exact ⟨v, h, fun a w ha _ => by simp [execOp, ev_eval ha ht, ev_eval ha hv, asBool]⟩
          · exact h.elim
        | false =>
          have h := h2 rfl
          split at h
          · rename_i v hv; exact ⟨v, h, fun a w ha _ => by simp [execOp, ev_eval ha ht, ev_eval ha hv, asBool]⟩
          · exact h.elim
    · exact h.elim
  case binOp b t x y yt =>
    simp only [sxOp] at h
    split at h
    · rename_i u v hu hv
      obtain ⟨r, hr, hrun⟩ := sxBin_run h
      exact ⟨r, hr, fun a w ha _ => by simp only [execOp, ev_eval ha hu, ev_eval ha hv]; rw [Sem.run_bind, hrun w]; rfl⟩
    · exact h.elim
  case unOp b t x =>
    simp only [sxOp] at h
    split at h
    · rename_i b hb; exact ⟨_, h, fun a w ha _ => by simp [execOp, ev_eval ha hb, Op.unary]⟩
    · rename_i v hv
      cases h with | mk r hr h => exact ⟨r, h, fun a w ha _ => by simp [execOp, ev_eval ha hv, hr w]⟩
    · exact h.elim
  case convert src dst' x =>
    simp only [sxOp] at h
    split at h
    · rename_i v hv
      unfold sxConv at h
      split at h
      · rename_i k k' n hd1 hd2
        cases h with | mk h => exact ⟨_, h, fun a w ha _ => by simp [execOp, ev_eval ha hv, convert, run_int hd1, run_int hd2, Conv.intToInt]⟩
      · rename_i s hd1 hd2; exact ⟨_, h, fun a w ha _ => by simp [execOp, ev_eval ha hv, convert, run_str hd1, run_str hd2]⟩
      · rename_i e s hd1 hd2; rw [hd1, hd2] at hst; cases hst
      · rename_i e ao n cap hd1 hd2
        split at h
        · rename_i hd3
          obtain ⟨l, hl, hr⟩ := SxStr.still (W := W) (M := M) (cap := cap) h src dst' e (Sx.usl hd1) (Sx.uint hd3) (Sx.ustr hd2)
          exact ⟨_, hl, fun a w ha hs => by simp [execOp, ev_eval ha hv, hr w hs]⟩
        · exact h.elim
      · cases h with | mk r hr h => exact ⟨r, h, fun a w ha _ => by simp [execOp, ev_eval ha hv, hr w]⟩
    · exact h.elim
  case build t ps =>
    have h' : sxOp S W M N ⟨dst, .build t ps, ty, pos, after, guard⟩ F H fun v H' => H' = H ∧ A v H := by
      simp only [sxOp] at h ⊢
      split at h
      · rename_i d0 n0 b0 z0 vs hi hvs
        split at h
        · rename_i fs
          cases hall : fs.all (fun f => (S.sz f.2).isSome) with
          | false => rw [hall] at h; exact h.elim
          | true =>
            rw [hall] at h
            cases h with | mk h1 hc h2 => exact SxFill.mk h1 hc ⟨trivial, h2⟩
        · rename_i n e
          split at h
          · cases h with | mk h1 hc h2 => exact SxFill.mk h1 hc ⟨trivial, h2⟩
          · exact h.elim
        · exact h.elim
      · exact h.elim
    simp only [sxOp] at h'
    split at h'
    · rename_i d0 n0 b0 z0 vs hi hvs
      have ev0 := fun (a : Act) (ha : Agree N F a) => evParts_eval ha hvs
      have hps := fun (a : Act) (ha : Agree N F a) => (show (ps.map fun (x : Nat × Operand) => (x.1, a.eval x.2)).toList.map (fun p => (p.1, p.2.cells.toList)) = vs by rw [← ev0 a ha]; simp)
      split at h'
      · rename_i fs
        obtain ⟨l, hl1, hl2⟩ := Sx.ustruct (S := S) (t := t) (fs := fs) (Sx.descOf hi)
        subst hl2
        cases hall : (l.toList.map fun (f : Field) => (f.offset, f.type)).all (fun f => (S.sz f.2).isSome) with
        | false => rw [hall] at h'; exact h'.elim
        | true =>
          rw [hall] at h'
          simp only [cond_true] at h'
          have hpl : ∀ j x, placeF S (l.toList.map fun (f : Field) => (f.offset, f.type)) j = some x → Option.map (fun f => (f.offset, (S.sz f.type).getD 0)) l[j]? = some x := by
            intro j x hx
            unfold placeF at hx
            split at hx
            · rename_i fo ft hf
              rw [nthF_eq, List.getElem?_map, Array.getElem?_toList] at hf
              obtain ⟨y, hy1, hy2⟩ := Option.map_eq_some_iff.1 hf
              simp only [Prod.mk.injEq] at hy2
              obtain ⟨rfl, rfl⟩ := hy2
              split at hx
              · rename_i n hn
                rw [← Option.some.inj hx, hy1]
                simp [hn]
              · cases hx
            · cases hx
          cases h' with
          | mk h1 hc h2 =>
            rename_i cs'
            refine ⟨_, h2.2, fun a w ha _ => ?_⟩
            have hf := (fill_get (place' := fun j => Option.map (fun f => (f.offset, (S.sz f.type).getD 0)) l[j]?) hpl (ps.map fun (x : Nat × Operand) => (x.1, a.eval x.2)).toList _ cs' (by rw [hps a ha]; exact h1) (by rw [hps a ha]; exact hc)).2
            simp only [Array.toArray_toList, Array.toList_map] at hf
            simp [execOp, Instr.build, run_zero hi, run_underlying hl1, Array.mapM_eq_mapM_toList, run_places w _ _ (places_of l.toList hall), hf]
      · rename_i n e
        split at h'
        · rename_i k hk
          cases h' with
          | mk h1 hc h2 =>
            rename_i cs'
            refine ⟨_, h2.2, fun a w ha _ => ?_⟩
            have hf := (fill_get (place' := fun j => some (j * k, k)) (fun _ _ h => h) (ps.map fun (x : Nat × Operand) => (x.1, a.eval x.2)).toList _ cs' (by rw [hps a ha]; exact h1) (by rw [hps a ha]; exact hc)).2
            simp only [Array.toArray_toList, Array.toList_map] at hf
            have hu := Sx.uarr (S := S) (t := t) (n := n) (e := e) (Sx.descOf hi)
            simp [execOp, Instr.build, run_zero hi, run_underlying hu, run_size hk, hf]
        · exact h'.elim
      · exact h'.elim
    · exact h'.elim
  case load t x =>
    simp only [sxOp] at h
    split at h
    · rename_i d0 n0 b0 z0 g off hti hx
      cases hag : isAggD d0 with
      | true =>
        rw [hag] at h
        simp only [cond_true] at h
        have fin : ∀ (vs : List Value), (∀ w, Sat W M H w → vs.length = n0 ∧ ∀ j v, vs[j]? = some v → w.cell? ⟨g, off + j, none⟩ = some v) → ∀ a w, Agree N F a → Sat W M H w → (execOp a.eval ⟨dst, .load t x, ty, pos, after, guard⟩).run S.P w = .ok (.value (.agg vs.toArray)) w := by
          intro vs hc a w ha hs
          have := run_loadVar_many (P := S.P) (by rw [run_agg hti w, hag]) (run_size' hti w) (hc w hs).1 (hc w hs).2
          simp [execOp, Instr.loadAt, Instr.sureAddr, ev_eval ha hx, this]
        cases h with
        | blk p hp hl hv hA => exact ⟨_, hA, fin _ fun w hs => by obtain ⟨us, hu, h1, h2⟩ := (SxLdN.blk (A := fun us => us = _) p hp hl hv rfl).get hs; subst hu; exact ⟨h1, h2⟩⟩
        | rd p hp ha' hj hl hv hA => exact ⟨_, hA, fin _ fun w hs => by obtain ⟨us, hu, h1, h2⟩ := (SxLdN.rd (A := fun us => us = _) p hp ha' hj hl hv rfl).get hs; subst hu; exact ⟨h1, h2⟩⟩
        | row p hp ha' hj hl hv hA => exact ⟨_, hA, fin _ fun w hs => by obtain ⟨us, hu, h1, h2⟩ := (SxLdN.row (A := fun us => us = _) p hp ha' hj hl hv rfl).get hs; subst hu; exact ⟨h1, h2⟩⟩
        | from_ hx' ha' hj hl hv hA => exact ⟨_, hA, fin _ fun w hs => by obtain ⟨us, hu, h1, h2⟩ := (SxLdN.from_ (A := fun us => us = _) hx' ha' hj hl hv rfl).get hs; subst hu; exact ⟨h1, h2⟩⟩
      | false =>
        rw [hag] at h
        simp only [cond_false] at h
        have fin : ∀ (v : Value), (∀ w, Sat W M H w → w.cell? ⟨g, off, none⟩ = some v) → ∀ a w, Agree N F a → Sat W M H w → (execOp a.eval ⟨dst, .load t x, ty, pos, after, guard⟩).run S.P w = .ok (.value v) w := by
          intro v hc a w ha hs
          have := run_loadVar_one (P := S.P) (by rw [run_agg hti w, hag]) (hc w hs)
          simp [execOp, Instr.loadAt, Instr.sureAddr, ev_eval ha hx, this]
        cases h with
        | blk p hp hv hA => exact ⟨_, hA, fin _ fun w hs => by obtain ⟨us, hu, h1⟩ := (SxLd.blk (A := fun us => us = _) p hp hv rfl).get hs; subst hu; exact h1⟩
        | rd p hp ha' hj hv hA => exact ⟨_, hA, fin _ fun w hs => by obtain ⟨us, hu, h1⟩ := (SxLd.rd (A := fun us => us = _) p hp ha' hj hv rfl).get hs; subst hu; exact h1⟩
        | row p hp ha' hj hv hA => exact ⟨_, hA, fin _ fun w hs => by obtain ⟨us, hu, h1⟩ := (SxLd.row (A := fun us => us = _) p hp ha' hj hv rfl).get hs; subst hu; exact h1⟩
        | from_ hx' ha' hj hv hA => exact ⟨_, hA, fin _ fun w hs => by obtain ⟨us, hu, h1⟩ := (SxLd.from_ (A := fun us => us = _) hx' ha' hj hv rfl).get hs; subst hu; exact h1⟩
    · exact h.elim
  case nilCheck x =>
    simp only [sxOp] at h
    split at h
    · rename_i ad hx; exact ⟨_, h, fun a w ha _ => by simp [execOp, ev_eval ha hx]⟩
    · rename_i f first captured hx; exact ⟨_, h, fun a w ha _ => by simp [execOp, ev_eval ha hx]⟩
    · exact h.elim
  case fieldAddr t x f =>
    have hp : ∃ v, pureOp S F (.fieldAddr t x f) = some v ∧ A v H := by
      simp only [sxOp] at h
      split at h
      · rename_i fs g off hd hx
        split at h
        · rename_i d n hp
          cases hn : Nat.blt 0 n with
          | false => rw [hn] at h; exact h.elim
          | true => rw [hn] at h; exact ⟨_, by simp only [pureOp, hd, hx, hp, hn]; rfl, h⟩
        · exact h.elim
      · exact h.elim
    obtain ⟨v, hv, hA⟩ := hp
    exact ⟨v, hA, fun a w ha _ => yields_run (o := ⟨dst, .fieldAddr t x f, ty, pos, after, guard⟩) hv ha⟩
  case indexAddr t x ix =>
    simp only [sxOp] at h
    split at h
    · rename_i e ao n cap kk i hd hx hix
      split at h
      · rename_i k hk
        have fin : ∀ (j g off : Nat), i = j → j < n → ao = some ⟨g, off, none⟩ → ∀ a w, Agree N F a → Sat W M H w → (execOp a.eval ⟨dst, .indexAddr t x ix, ty, pos, after, guard⟩).run S.P w = .ok (.value (.pointer (some ⟨g, off + j * k, none⟩))) w := by
          rintro j g off rfl hj rfl a w ha _
          simp [execOp, Instr.indexAt, asIntOf, run_sl hd, ev_eval ha hx, ev_eval ha hix, hj, run_size hk, Addr.add_lit]
        cases h with
        | rd p cs hp j h1 hj hc h =>
          obtain ⟨g, off, he, _⟩ := (hs0.rd p hp).2 (by omega)
          exact ⟨_, h g off he, fin j g off h1 hj he⟩
        | row p cap' e' cs hp j h1 hj h =>
          rcases (hs0.row p hp).2 with ⟨_, h0⟩ | ⟨g, c, cur, he, _⟩
          · omega
          · simp only [Value.slice.injEq] at he
            exact ⟨_, h g he.1, fin j g 0 h1 hj he.1⟩
        | ptr g off he j h1 hj h => exact ⟨_, h, fin j g off h1 hj he⟩
        | any cs hx' j h1 hj hc h =>
          obtain ⟨g, off, he, _⟩ := (hx' _ _ _ hs0).2 (by omega)
          exact ⟨_, h g off he, fin j g off h1 hj he⟩
      · exact h.elim
    · rename_i n e g off kk i hd hx hix
      split at h
      · rename_i k hk
        cases h with
        | mk j h1 hj h =>
          subst h1
          exact ⟨_, h, fun a w ha _ => by simp [execOp, Instr.indexAt, asIntOf, run_arr hd, ev_eval ha hx, ev_eval ha hix, hj, run_size hk, Instr.sureAddr, Addr.add_lit]⟩
      · exact h.elim
    · exact h.elim
  case index t x ix =>
    simp only [sxOp] at h
    split at h
    · rename_i s kk i hd hx hix
      cases h with
      | mk j h1 hj h =>
        subst h1
        refine ⟨_, h, fun a w ha _ => ?_⟩
        have hsz : j < s.data.toList.length := by simpa using hj
        have hget : s[j]? = some s[j] := by simp [hj]
        have hb : s.data.toList.getD j 0 = s[j] := by
          have hsz2 : j < s.data.size := by simpa using hsz
          simp only [List.getD, Array.getElem?_toList]
          rw [Array.getElem?_eq_getElem hsz2]; rfl
        simp only [hb]
        simp [execOp, Instr.index, asIntOf, run_str hd, ev_eval ha hx, ev_eval ha hix, hj]
    · rename_i n e cs kk i hd hx hix
      split at h
      · rename_i d0 n0 b0 z0 hu
        cases h with
        | mk j h1 hj h =>
          subst h1
          cases hag : isAggD d0 with
          | true =>
            rw [hag] at h
            simp only [cond_true] at h
            cases h with
            | mk hl hv h => exact ⟨_, h, fun a w ha _ => by simp [execOp, Instr.index, asIntOf, run_arr hd, ev_eval ha hx, ev_eval ha hix, hj, run_size' hu, part_agg hu hag, hv]⟩
          | false =>
            rw [hag] at h
            simp only [cond_false] at h
            cases h with
            | mk hv h => exact ⟨_, h, fun a w ha _ => by simp [execOp, Instr.index, asIntOf, run_arr hd, ev_eval ha hx, ev_eval ha hix, hj, run_size' hu, part_one hu hag _ _ _ hv]⟩
      · exact h.elim
    · exact h.elim
  case field t x f =>
    simp only [sxOp] at h
    split at h
    · rename_i fs cs hd hx
      split at h
      · rename_i fo ft hf
        obtain ⟨l, hl1, hl2⟩ := Sx.ustruct hd
        subst hl2
        rw [nthF_eq, List.getElem?_map, Array.getElem?_toList] at hf
        obtain ⟨y, hy1, hy2⟩ := Option.map_eq_some_iff.1 hf
        simp only [Prod.mk.injEq] at hy2
        obtain ⟨rfl, rfl⟩ := hy2
        split at h
        · rename_i d0 n0 b0 z0 hu
          cases hag : isAggD d0 with
          | true =>
            rw [hag] at h
            simp only [cond_true] at h
            cases h with
            | mk hl hv h => exact ⟨_, h, fun a w ha _ => by simp [execOp, Instr.field, run_underlying hl1, ev_eval ha hx, hy1, asAgg, part_agg hu hag, hv]⟩
          | false =>
            rw [hag] at h
            simp only [cond_false] at h
            cases h with
            | mk hv h => exact ⟨_, h, fun a w ha _ => by simp [execOp, Instr.field, run_underlying hl1, ev_eval ha hx, hy1, asAgg, part_one hu hag _ _ _ hv]⟩
        · exact h.elim
      · exact h.elim
    · exact h.elim
  case extract x i =>
    simp only [sxOp] at h
    split at h
    · rename_i vs hv
      split at h
      · rename_i v hn
        rw [nthV_eq, Array.getElem?_toList] at hn
        exact ⟨_, h, fun a w ha _ => by simp [execOp, ev_eval ha hv, Instr.extract, hn]⟩
      · exact h.elim
    · exact h.elim
  case slice t x lo hi mx =>
    cases mx with
    | some m => simp only [Bool.false_eq_true] at hst
    | none =>
      simp only [sxOp] at h
      split at h
      · rename_i v hv
        obtain ⟨r, hA, hr⟩ := slice_get (S := S) (N := N) h
        exact ⟨r, hA, fun a w ha _ => by simp [execOp, ev_eval ha hv, hr a ha w]⟩
      · exact h.elim
  case makeFunc fn first captured =>
    simp only [sxOp] at h
    split at h
    · rename_i u v hu hv
      refine ⟨_, h, fun a w ha _ => ?_⟩
      have h1 : first.map a.eval = u.toArray := by apply Array.ext'; rw [Array.toList_map, evs_eval ha hu]
      have h2 : captured.map a.eval = v.toArray := by apply Array.ext'; rw [Array.toList_map, evs_eval ha hv]
      simp [execOp, Instr.makeFunc, h1, h2]
    · exact h.elim
  case call c =>
    obtain ⟨callee, args, tys⟩ := c
    cases callee with
    | builtin b =>
      simp only [sxOp] at h
      split at h
      · rename_i b' vs hcal hvs
        cases hcal
        have fin : ∀ (v : Value), (∀ w (cst : Array Bool), (builtin b tys ty cst vs.toArray).run S.P w = .ok (.value v) w) → ∀ a w, Agree N F a → Sat W M H w → (execOp a.eval ⟨dst, .call ⟨.builtin b, args, tys⟩, ty, pos, after, guard⟩).run S.P w = .ok (.value v) w := by
          intro v hv a w ha _
          have hargs : args.map a.eval = vs.toArray := by apply Array.ext'; rw [Array.toList_map, evs_eval ha hvs]
          simp [execOp, resolve, invoke, hargs, hv]
        simp only [stillConv, stillOp] at hst
        have hus : useSem b vs = false := by
          cases b <;> first
            | rfl
            | (simp at hst)
        rw [hus] at h
        simp only [cond_false] at h
        unfold sxBuiltin at h
        split at h
        · rename_i t r v ht
          have htys : tys = (t :: r).toArray := by apply Array.ext'; rw [ht]
          split at h
          · rename_i s hd; exact ⟨_, h, fin _ fun w cst => by simp [htys, builtin, Builtin.len_, run_str hd, goInt]⟩
          · rename_i e ao n cap hd; exact ⟨_, h, fin _ fun w cst => by simp [htys, builtin, Builtin.len_, run_sl hd, goInt]⟩
          · rename_i n e hd; exact ⟨_, h, fin _ fun w cst => by simp [htys, builtin, Builtin.len_, run_arr hd, goInt]⟩
          · cases h with
            | mk n hn hA =>
              refine ⟨_, hA, fun a w ha hs => ?_⟩
              have hev := evs_eval ha hvs
              have key : ∀ u : Value, args.toList.map a.eval = [u] → (Builtin.len_ tys ty #[u]).run S.P w = .ok (goInt n) w → (execOp a.eval ⟨dst, .call ⟨.builtin .len, args, tys⟩, ty, pos, after, guard⟩).run S.P w = .ok (.value (.int .i64 (n : Nat))) w := by
                intro u hu hr
                have hargs : args.map a.eval = #[u] := by apply Array.ext'; rw [Array.toList_map, hu]
                simp [execOp, resolve, invoke, hargs, builtin, hr, goInt]
              have := hn W M w ty hs
              simp only [Array.toArray_toList] at this
              exact key _ hev this
        · rename_i k x k' y
          cases hk : sameK k k' with
          | true => rw [hk] at h; exact ⟨_, h, fin _ fun w cst => by simp [builtin, Builtin.min_, Builtin.min2]⟩
          | false => rw [hk] at h; exact h.elim
        · rename_i k x k' y
          cases hk : sameK k k' with
          | true => rw [hk] at h; exact ⟨_, h, fin _ fun w cst => by simp [builtin, Builtin.max_, Builtin.max2]⟩
          | false => rw [hk] at h; exact h.elim
        · cases hst
        · cases hst
        · cases h with | mk v hr h => exact ⟨v, h, fin v fun w cst => by simpa using hr ty cst w⟩
      · rename_i hcal hvs; cases hcal
      · exact h.elim
    | value f => cases hst
    | invoke r m => cases hst
theorem any_still (i : Nat) (hi : nthO ops i = some o) (hop : stillConv S o.op = true) (hns : noSel ops = true) (hf : freeB ops listed i = true) (hr : readyB ops listed i = true) (hni : memN i sp = false) (hw : waitsL ops sp i = true) (hsp : spoiltL sp listed = false)
    (hst : status N ops o D F = 2) (h : sxOp S W M N o F Hs fun v _ => SxAny S W M N ops Hs sp D (setB listed i) (upd o.dst v F) H K) : SxAny S W M N ops Hs sp D listed F H K := by
  refine ⟨fun a0 wr hwr a w ha hs hsm hs0 => ?_⟩
  rw [spoiltL_eq] at hsp
  rw [waitsL_eq] at hw
  have hs1 : Sat W M Hs w := by
    rcases hs0 with h | h
    · rw [hsp] at h; cases h
    · exact h
  obtain ⟨v, h, hrun⟩ := still_run hop h hs1 ha
  have ho : ops.toArray[i]? = some o := by rw [List.getElem?_toArray, ← nthO_eq]; exact hi
  replace hf := freeB_get hf
  have hun : listed.toArray.getD i true = false := hf.2
  have h1 := unlisted_set hun
  rw [← h1]
  have hm : o ∈ ops := by rw [nthO_eq] at hi; exact List.mem_of_getElem? hi
  refine wpAnyX_first ho (Region.noSelect_spec (by rw [← noSel_eq]; exact hns)) KQ_panic (Sat W M Hs) hni (.inr ⟨hw, fun _ h => h⟩) _ _ a w (Region.free_spec ho hf.1) (readyB_mem hr) (.inl ⟨(wanted_of ha).1 hst, fun w hw => hrun a w ha hw⟩) (.inl hsp) hs0 ?_
  cases h with
  | mk h =>
    rw [← set_list]
    exact h a0 wr hwr _ w (ha.put (status_dst hst) v) hs (hsm.put (hwr o hm) v) (by rw [set_list, spoilt_ne hni]; exact hs0)
theorem any_guard {j d : Nat} {t : Bool} (_hgd : gdst ops j = some d) (hl : look F d = some (.bool t))
    (h : SxIf t (SxAny S W M N ops Hs sp ((j, true) :: D) listed ((d, some (.bool true)) :: F) H K) (SxAny S W M N ops Hs sp ((j, false) :: D) listed ((d, some (.bool false)) :: F) H K)) : SxAny S W M N ops Hs sp D listed F H K := by
  refine ⟨fun a0 wr hwr a w ha hs hsm hs0 => ?_⟩
  cases h with
  | mk h1 h2 =>
    cases t with
    | true => cases h1 rfl with | mk h => exact h a0 wr hwr a w (ha.bool hl) hs hsm hs0
    | false => cases h2 rfl with | mk h => exact h a0 wr hwr a w (ha.bool hl) hs hsm hs0
inductive SxStable (Hs H' : Hp) (A : Prop) : Prop
  | mk (ks : List Nat) (hk : pickH H' ks = some Hs) (hn : nodupB ks = true) (h : A)
theorem wpOp_any {D : List (Nat × Bool)} {_Q' : Prop} {a0 : Act} {wr : List Nat} {a : Act} {w : World} (hi : nthO ops i = some o) (hst : status N ops o D F = 2) (ha : Agree N F a) (hs : Sat W M H w) {A : Value → Hp → Prop} (h : sxOp S W M N o F H A) {G : Act → World → Prop} (hG : ∀ v H' w', A v H' → Sat W M H' w' → G (a.put o.dst v) w') :
    wpOp S.P ops.toArray (KQ W M N wr a0 K) i G a w := by
  have ho : ops.toArray[i]? = some o := by rw [List.getElem?_toArray, ← nthO_eq]; exact hi
  unfold wpOp
  simp only [ho, (wanted_of ha).1 hst, if_true]
  refine .inl (Oper.wp_mono (fun a' w' hk => ?_) (sxOp_sound h ha hs _))
  obtain ⟨v, H', rfl, hs', hA⟩ := hk
  exact hG v H' w' hA hs'
theorem any_one (i : Nat) (hi : nthO ops i = some o) (hr : readyLs ops listed = [i]) (hst : status N ops o D F = 2) (hu : getL listed i true = false)
    (h : sxOp S W M N o F H fun v H' => bif spoiltL sp (setB listed i) then SxAny S W M N ops Hs sp D (setB listed i) (upd o.dst v F) H' K else SxStable Hs H' (SxAny S W M N ops Hs sp D (setB listed i) (upd o.dst v F) H' K)) : SxAny S W M N ops Hs sp D listed F H K := by
  refine ⟨fun a0 wr hwr a w ha hs hsm hs0 => ?_⟩
  rw [readyLs_eq] at hr
  have hun : listed.toArray.getD i true = false := by rw [← getL_eq]; exact hu
  rw [← unlisted_set hun]
  have hm : o ∈ ops := by rw [nthO_eq] at hi; exact List.mem_of_getElem? hi
  refine ⟨fun h0 => (by rw [hr] at h0; cases h0), fun k hk => ?_⟩
  rw [hr] at hk
  simp at hk
  subst hk
  refine wpOp_any (_Q' := True) (D := D) hi hst ha hs h fun v H' w' hA hs' => ?_
  rw [spoiltL_eq] at hA
  cases hsp : spoilt sp (setB listed k).toArray with
  | true =>
    rw [hsp] at hA
    cases hA with
    | mk hA =>
      rw [← set_list]
      exact ⟨.inl hsp, hA a0 wr hwr _ w' (ha.put (status_dst hst) v) hs' (hsm.put (hwr o hm) v) (.inl hsp)⟩
  | false =>
    rw [hsp] at hA
    simp only [cond_false] at hA
    cases hA with
    | mk ks hk hn hA =>
      have hst' := hs'.pick hk hn
      cases hA with
      | mk hA =>
        rw [← set_list]
        exact ⟨.inr hst', hA a0 wr hwr _ w' (ha.put (status_dst hst) v) hs' (hsm.put (hwr o hm) v) (.inr hst')⟩
def SxUp (S : Sx) (W : World) (M : List Nat) (N : Nat) (ops : List Oper) (Hs : Hp) (sp : List Nat) (D : List (Nat × Bool)) (listed : List Bool) (F : Fr) (H : Hp) (K : Fr → Hp → Prop) (i : Nat) : Prop := ∃ o, nthO ops i = some o ∧ Nat.beq (status N ops o D F) 2 = true ∧ getL listed i true = false ∧
  sxOp S W M N o F H fun v H' => bif spoiltL sp (setB listed i) then SxAny S W M N ops Hs sp D (setB listed i) (upd o.dst v F) H' K else SxStable Hs H' (SxAny S W M N ops Hs sp D (setB listed i) (upd o.dst v F) H' K)
theorem any_ups (hr : readyLs ops listed ≠ []) (h : ∀ i ∈ readyLs ops listed, SxUp S W M N ops Hs sp D listed F H K i) : SxAny S W M N ops Hs sp D listed F H K := by
  rw [readyLs_eq] at hr h
  refine ⟨fun a0 wr hwr a w ha hs hsm hs0 => ?_⟩
  obtain ⟨k0, hk0⟩ : ∃ k, k ∈ Region.ready .any ops.toArray listed.toArray := List.exists_mem_of_ne_nil _ hr
  obtain ⟨o0, _, _, hu0, _⟩ := h k0 hk0
  have hun0 : listed.toArray.getD k0 true = false := by rw [← getL_eq]; exact hu0
  rw [← unlisted_set hun0]
  refine ⟨fun h0 => absurd h0 hr, fun k hk => ?_⟩
  obtain ⟨o, hi, hst, hu, h⟩ := h k hk
  have hst := Nat.eq_of_beq_eq_true hst
  have hun : listed.toArray.getD k true = false := by rw [← getL_eq]; exact hu
  have hm : o ∈ ops := by rw [nthO_eq] at hi; exact List.mem_of_getElem? hi
  have hsame : unlisted (listed.toArray.setIfInBounds k0 true) = unlisted (listed.toArray.setIfInBounds k true) := by
    have h1 := unlisted_set hun0
    have h2 := unlisted_set hun
    omega
  rw [hsame]
  refine wpOp_any (_Q' := True) (D := D) hi hst ha hs h fun v H' w' hA hs' => ?_
  rw [spoiltL_eq] at hA
  cases hsp : spoilt sp (setB listed k).toArray with
  | true =>
    rw [hsp] at hA
    cases hA with
    | mk hA =>
      rw [← set_list]
      exact ⟨.inl hsp, hA a0 wr hwr _ w' (ha.put (status_dst hst) v) hs' (hsm.put (hwr o hm) v) (.inl hsp)⟩
  | false =>
    rw [hsp] at hA
    simp only [cond_false] at hA
    cases hA with
    | mk ks hk hn hA =>
      have hst' := hs'.pick hk hn
      cases hA with
      | mk hA =>
        rw [← set_list]
        exact ⟨.inr hst', hA a0 wr hwr _ w' (ha.put (status_dst hst) v) hs' (hsm.put (hwr o hm) v) (.inr hst')⟩
theorem any_two {j : Nat} {o' : Oper} (hr : readyLs ops listed = [i, j]) (hi : nthO ops i = some o) (hst : Nat.beq (status N ops o D F) 2 = true) (hu : getL listed i true = false) (hj : nthO ops j = some o') (hst' : Nat.beq (status N ops o' D F) 2 = true) (hu' : getL listed j true = false)
    (h : sxOp S W M N o F H fun v H' => bif spoiltL sp (setB listed i) then SxAny S W M N ops Hs sp D (setB listed i) (upd o.dst v F) H' K else SxStable Hs H' (SxAny S W M N ops Hs sp D (setB listed i) (upd o.dst v F) H' K))
    (h' : sxOp S W M N o' F H fun v H' => bif spoiltL sp (setB listed j) then SxAny S W M N ops Hs sp D (setB listed j) (upd o'.dst v F) H' K else SxStable Hs H' (SxAny S W M N ops Hs sp D (setB listed j) (upd o'.dst v F) H' K)) : SxAny S W M N ops Hs sp D listed F H K := by
  refine any_ups (by rw [hr]; simp) fun k hk => ?_
  rw [hr] at hk
  rcases List.mem_cons.1 hk with e | e
  · subst e; exact ⟨o, hi, hst, hu, h⟩
  · simp at e; subst e; exact ⟨o', hj, hst', hu', h'⟩
theorem any_done (hr : readyLs ops listed = []) (h : K F H) : SxAny S W M N ops Hs sp D listed F H K := by
  rw [readyLs_eq] at hr
  refine ⟨fun a0 wr hwr a w ha hs hsm hs0 => ?_⟩
  have hq : KQ W M N wr a0 K .normal a w := ⟨F, H, h, ha, hs, hsm⟩
  cases unlisted listed.toArray with
  | zero => exact ⟨hr, hq⟩
  | succ n => exact ⟨fun _ => hq, by rw [hr]; simp⟩
def runAny (S : Sx) (N : Nat) (ops : List Oper) (sp : List Nat) (D : List (Nat × Bool)) : List Nat → List Bool → Fr → List Bool × Fr
  | [], L, F => (L, F)
  | i :: r, L, F => match nthO ops i with
    | some o => bif freeB ops L i && readyB ops L i && !memN i sp then
        (match status N ops o D F with
        | 2 => match pureOp S F o.op with
          | some v => runAny S N ops sp D r (setB L i) (upd o.dst v F)
          | none => runAny S N ops sp D r L F
        | 1 => runAny S N ops sp D r (setB L i) (upd o.dst undef F)
        | _ => runAny S N ops sp D r L F)
      else runAny S N ops sp D r L F
    | none => runAny S N ops sp D r L F
theorem any_run (hns : noSel ops = true) {L' : List Bool} {F' : Fr} : ∀ {is : List Nat} {listed : List Bool} {F : Fr}, runAny S N ops sp D is listed F = (L', F') → SxAny S W M N ops Hs sp D L' F' H K → SxAny S W M N ops Hs sp D listed F H K
  | [], L, F, h, hk => by
    simp only [runAny, Prod.mk.injEq] at h
    obtain ⟨rfl, rfl⟩ := h
    exact hk
  | i :: r, L, F, h, hk => by
    unfold runAny at h
    split at h
    · rename_i o ho
      cases hb : (freeB ops L i && readyB ops L i && !memN i sp) with
      | false => rw [hb] at h; exact any_run hns h hk
      | true =>
        rw [hb] at h
        simp only [cond_true] at h
        simp only [Bool.and_eq_true, Bool.not_eq_true'] at hb
        obtain ⟨⟨h1, h2⟩, h3⟩ := hb
        split at h
        · rename_i hst
          split at h
          · rename_i v hv
            exact any_pure ho hns h1 h2 h3 hst hv (any_run hns h hk)
          · exact any_run hns h hk
        · rename_i hst
          exact any_skip ho hns h1 h2 h3 hst (any_run hns h hk)
        · exact any_run hns h hk
    · exact any_run hns h hk
theorem any_go (hns : noSel ops = true) {L' : List Bool} {F' : Fr} (h : runAny S N ops sp D (upTo 0 ops.length) listed F = (L', F')) (hk : SxAny S W M N ops Hs sp D L' F' H K) : SxAny S W M N ops Hs sp D listed F H K := any_run hns h hk
theorem SxCode.draw {id : Nat} {ops : Array Oper} {l : List Oper} {Q : Exit → Fr → Hp → Prop} (hl : ops = ⟨l⟩) (Hs : Hp) (sp : List Nat) (ks : List Nat) (hk : pickH H ks = some Hs) (hn : nodupB ks = true) (h : SxAny S W M N l Hs sp [] (falses l) F H (Q .normal)) : SxCode S W M N (.region id ops true) Q F H := by
  subst hl
  refine ⟨fun a w ha hs => ?_⟩
  have hs' : Sat W M H w.drew := hs.grow (drew_grown w)
  cases h with
  | mk h =>
    have hx := h a (writes (.region id ⟨l⟩ true)) (fun o ho t ht => List.mem_filterMap.2 ⟨o, ho, ht⟩) a w.drew ha hs' (Same.refl _ _) (.inr (hs'.pick hk hn))
    have hm : ∀ e a' w', KQ W M N (writes (.region id ⟨l⟩ true)) a (Q .normal) e a' w' → Lift W M N Q (writes (.region id ⟨l⟩ true)) a e a' w' := by
      intro e a' w' hq
      cases e with
      | normal => obtain ⟨F', H', hq, h1, h2, h3⟩ := hq; exact ⟨F', H', hq, h1, h2, h3⟩
      | exit _ => exact hq.elim
      | goto _ => exact hq.elim
      | ret => exact hq.elim
      | panic _ => exact hq.elim
      | outgrown => exact hq.elim
    refine wp_mono (wp_region_any S.mixed ?_) hm
    have he : (falses l).toArray = Array.replicate l.length false := by rw [falses_eq]; simp
    rw [he, unlisted_replicate] at hx
    exact wpAny_of_X _ _ _ _ hx
def stillAt (S : Sx) (N : Nat) (ops : List Oper) (sp : List Nat) (D : List (Nat × Bool)) (L : List Bool) (F : Fr) : List Nat → Option (Nat × Oper)
  | [] => none
  | i :: r => match nthO ops i with
    | some o => bif freeB ops L i && readyB ops L i && !memN i sp && waitsL ops sp i && !spoiltL sp L && Nat.beq (status N ops o D F) 2 && stillConv S o.op then some (i, o) else stillAt S N ops sp D L F r
    | none => stillAt S N ops sp D L F r
theorem stillAt_get : ∀ {is : List Nat} {L : List Bool}, stillAt S N ops sp D L F is = some (i, o) → nthO ops i = some o ∧ freeB ops L i = true ∧ readyB ops L i = true ∧ memN i sp = false ∧ waitsL ops sp i = true ∧ spoiltL sp L = false ∧ status N ops o D F = 2 ∧ stillConv S o.op = true
  | [], L, h => by cases h
  | k :: r, L, h => by
    unfold stillAt at h
    split at h
    · rename_i o' ho
      cases hb : (freeB ops L k && readyB ops L k && !memN k sp && waitsL ops sp k && !spoiltL sp L && Nat.beq (status N ops o' D F) 2 && stillConv S o'.op) with
      | false => rw [hb] at h; exact stillAt_get h
      | true =>
        rw [hb] at h
        simp only [cond_true, Option.some.injEq, Prod.mk.injEq] at h
        obtain ⟨rfl, rfl⟩ := h
        simp only [Bool.and_eq_true, Bool.not_eq_true'] at hb
        obtain ⟨⟨⟨⟨⟨⟨h1, h2⟩, h3⟩, h4⟩, h5⟩, h6⟩, h7⟩ := hb
        exact ⟨ho, h1, h2, h3, h4, h5, Nat.eq_of_beq_eq_true h6, h7⟩
    · exact stillAt_get h
theorem any_st (hns : noSel ops = true) (h : stillAt S N ops sp D listed F (upTo 0 ops.length) = some (i, o)) (k : sxOp S W M N o F Hs fun v _ => SxAny S W M N ops Hs sp D (setB listed i) (upd o.dst v F) H K) : SxAny S W M N ops Hs sp D listed F H K := by
  obtain ⟨h1, h2, h3, h4, h5, h6, h7, h8⟩ := stillAt_get h
  exact any_still i h1 h8 hns h2 h3 h4 h5 h6 h7 k
theorem any_on (hr : readyLs ops listed = [i]) (hi : nthO ops i = some o) (hst : Nat.beq (status N ops o D F) 2 = true) (hu : getL listed i true = false)
    (h : sxOp S W M N o F H fun v H' => bif spoiltL sp (setB listed i) then SxAny S W M N ops Hs sp D (setB listed i) (upd o.dst v F) H' K else SxStable Hs H' (SxAny S W M N ops Hs sp D (setB listed i) (upd o.dst v F) H' K)) : SxAny S W M N ops Hs sp D listed F H K :=
  any_one i hi hr (Nat.eq_of_beq_eq_true hst) hu h
def guardAt (ops : List Oper) (D : List (Nat × Bool)) (L : List Bool) (F : Fr) : List Nat → Option (Nat × Nat × Bool)
  | [] => none
  | i :: r => bif getL L i true then guardAt ops D L F r else match nthO ops i with
    | some o => match o.guard with
      | some (j, _) => match lookD D j, gdst ops j with
        | none, some d => match look F d with
          | some (.bool t) => some (j, d, t)
          | _ => guardAt ops D L F r
        | _, _ => guardAt ops D L F r
      | none => guardAt ops D L F r
    | none => guardAt ops D L F r
theorem guardAt_get {j d : Nat} {t : Bool} : ∀ {is : List Nat} {L : List Bool}, guardAt ops D L F is = some (j, d, t) → gdst ops j = some d ∧ look F d = some (.bool t)
  | [], L, h => by cases h
  | k :: r, L, h => by
    unfold guardAt at h
    cases hb : getL L k true with
    | true => rw [hb] at h; exact guardAt_get h
    | false =>
      rw [hb] at h
      simp only [cond_false] at h
      split at h
      · split at h
        · split at h
          · rename_i d' hD hd
            split at h
            · rename_i t' hl
              simp only [Option.some.injEq, Prod.mk.injEq] at h
              obtain ⟨rfl, rfl, rfl⟩ := h
              exact ⟨hd, hl⟩
            · exact guardAt_get h
          · exact guardAt_get h
        · exact guardAt_get h
      · exact guardAt_get h
theorem any_gd {j d : Nat} {t : Bool} (h : guardAt ops D listed F (upTo 0 ops.length) = some (j, d, t))
    (k : SxIf t (SxAny S W M N ops Hs sp ((j, true) :: D) listed ((d, some (.bool true)) :: F) H K) (SxAny S W M N ops Hs sp ((j, false) :: D) listed ((d, some (.bool false)) :: F) H K)) : SxAny S W M N ops Hs sp D listed F H K :=
  any_guard (guardAt_get h).1 (guardAt_get h).2 k
theorem SxCode.drawAll {id : Nat} {ops : Array Oper} {l : List Oper} {Q : Exit → Fr → Hp → Prop} (hl : ops = ⟨l⟩) (sp : List Nat) (h : SxAny S W M N l H sp [] (falses l) F H (Q .normal)) : SxCode S W M N (.region id ops true) Q F H := by
  have key : ∀ (n : Nat) (H : Hp), pickH H ((List.range' n (H.length - n))) = some (H.drop n) := by
    intro n H
    generalize hm : H.length - n = m
    induction m generalizing n with
    | zero => rw [List.drop_of_length_le (by omega)]; rfl
    | succ m ih =>
      have hlt : n < H.length := by omega
      rw [List.range'_succ]
      simp only [pickH]
      rw [List.getElem?_eq_getElem hlt]
      simp only
      rw [ih (n + 1) (by omega)]
      simp only
      rw [List.drop_eq_getElem_cons hlt]
  have nd : ∀ (m n : Nat), nodupB (List.range' n m) = true := by
    intro m
    induction m with
    | zero => intro n; rfl
    | succ m ih =>
      intro n
      rw [List.range'_succ]
      simp only [nodupB, ih, Bool.and_true, Bool.not_eq_true', List.any_eq_false]
      intro x hx
      have := List.mem_range'_1.1 hx
      simp
      omega
  exact SxCode.draw hl H sp (List.range' 0 (H.length - 0)) (by have := key 0 H; simpa using this) (nd _ _) h
end
end
end Go.Proofs.YtlmefcepdadfjaaGreat

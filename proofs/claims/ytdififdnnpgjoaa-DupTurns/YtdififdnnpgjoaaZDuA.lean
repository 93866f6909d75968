/- Layer 26: chunks and their order. -/
import Derived.Test.YtdififdnnpgjoaaZFq
import Derived.Test.YtdififdnnpgjoaaZGen
namespace Go.Proofs.Ytdififdnnpgjoaa
open Go.RowKit

structure Ck where
  pl : Pl
  fq : Fq
  s : ByteArray
instance : DecidableEq Ck := fun x y => decidable_of_iff (x.pl = y.pl ∧ x.fq = y.fq ∧ x.s = y.s) (by
  obtain ⟨a, b, c⟩ := x
  obtain ⟨d, e, f⟩ := y
  simp)
instance : Inhabited Ck := ⟨⟨default, default, default⟩⟩
def ckC (c : Ck) : List Value := plC c.pl ++ (fqC c.fq ++ [.string c.s])
theorem ckC_len (c : Ck) : (ckC c).length = 35 := by unfold ckC; rw [List.length_append, List.length_append, fqC_len]; rfl
theorem ckC_one (c : Ck) : allOne (ckC c) = true := by
  show allOne (c.fq.1.map u8V ++ [.string c.s]) = true
  rw [allOne_u8]; rfl
def ckE : Enc Ck := ⟨ckC, 35, by decide, ckC_len, ckC_one⟩
def ckK : List KD := [.int .u32, .int .i64] ++ (List.replicate 32 (.int .u8) ++ [.str])
theorem ckK_all (c : Ck) : allK ckK (ckC c) = true := by
  show allK (List.replicate 32 (.int .u8) ++ [.str]) (c.fq.1.map u8V ++ [.string c.s]) = true
  have := allK_u8 [.str] [.string c.s] c.fq.1
  rw [c.fq.2] at this
  rw [this]; rfl
theorem ckC_inj {x y : Ck} (h : ckC x = ckC y) : x = y := by
  unfold ckC at h
  have h1 : plC x.pl = plC y.pl := List.append_inj_left h rfl
  have h2 := List.append_inj_right h rfl
  have h3 : fqC x.fq = fqC y.fq := List.append_inj_left h2 (by rw [fqC_len, fqC_len])
  have h4 := List.append_inj_right h2 (by rw [fqC_len, fqC_len])
  simp only [List.cons.injEq, Value.string.injEq, and_true] at h4
  obtain ⟨a, b, c⟩ := x
  obtain ⟨d, e, f⟩ := y
  simp only [Ck.mk.injEq]
  exact ⟨plC_inj h1, fqC_inj h3, h4⟩
theorem ck_eq (x y : Ck) : cellsEq (ckC x) (ckC y) = decide (x = y) := by
  have h := cellsEq_iff (ks := ckK) (us := ckC x) (vs := ckC y) (ckK_all x) (ckK_all y)
  by_cases he : x = y
  · rw [decide_eq_true he, he]
    exact (cellsEq_iff (ks := ckK) (us := ckC y) (vs := ckC y) (ckK_all y) (ckK_all y)).2 rfl
  · rw [decide_eq_false he]
    cases hc : cellsEq (ckC x) (ckC y) with
    | false => rfl
    | true => exact absurd (ckC_inj (h.1 hc)) he
theorem SxRun.neCk {x y : Ck} {o1 o2 : Operand} {A : Value → Prop} (h : A (.bool (!decide (x = y)))) : SxRun SX.P (do eqGuard .neq 34 o1 o2 (.agg (ckC x).toArray) (.agg (ckC y).toArray); binOp .neq 34 (.agg (ckC x).toArray) (.agg (ckC y).toArray)) A :=
  SxRun.ne 3 rfl (ks := ckK) rfl rfl (by kernel_rfl) rfl (ckK_all x) (ckK_all y) (by show A (.bool (!cellsEq (ckC x) (ckC y))); rw [ck_eq]; exact h)
theorem ckE_len (l : List Ck) : (ckE.fl l).length = l.length * 35 := ckE.fl_len l
theorem ckE_at {l : List Ck} {k : Nat} {x : Ck} (h : l[k]? = some x) : ((ckE.fl l).drop (k * 35)).take 35 = ckC x := ckE.fl_at h
theorem ckC_all (x : Ck) : ((ckC x).drop 0).take 35 = ckC x := by rw [List.drop_zero, List.take_of_length_le (by rw [ckC_len]; exact Nat.le_refl _)]
theorem ckC_pl (x : Ck) : ((ckC x).drop 0).take 2 = plC x.pl := rfl
theorem ckC_fq (x : Ck) : ((ckC x).drop 2).take 32 = fqC x.fq := by
  show (fqC x.fq ++ [Value.string x.s]).take 32 = _
  rw [List.take_append_of_le_length (by rw [fqC_len]; exact Nat.le_refl _), List.take_of_length_le (by rw [fqC_len]; exact Nat.le_refl _)]
theorem ckC_s (x : Ck) : (ckC x)[34]? = some (.string x.s) := by
  show (fqC x.fq ++ [Value.string x.s])[32]? = _
  rw [List.getElem?_append_right (by rw [fqC_len]; exact Nat.le_refl _), fqC_len]; rfl
theorem ckE_pl {l : List Ck} {k : Nat} {x : Ck} (h : l[k]? = some x) : ((ckE.fl l).drop (k * 35)).take 2 = plC x.pl := by
  have h1 := ckE_at h
  have h2 : ((ckE.fl l).drop (k * 35)).take 2 = (((ckE.fl l).drop (k * 35)).take 35).take 2 := by rw [List.take_take]; rfl
  rw [h2, h1]; rfl
theorem ckE_s {l : List Ck} {k : Nat} {x : Ck} (h : l[k]? = some x) : (ckE.fl l)[k * 35 + 34]? = some (.string x.s) := ckE.fl_cell (j := 34) h (ckC_s x)
/-- Comparisons. -/
structure Cmp {β : Type} (c : β → β → Int) : Prop where
  zero : ∀ x y, c x y = 0 ↔ x = y
  swap : ∀ x y, c y x = - c x y
  tr : ∀ x y z, c x y < 0 → c y z < 0 → c x z < 0
def orZ (a b : Int) : Int := if a ≠ 0 then a else b
theorem Cmp.prod {β γ : Type} {c : β → β → Int} {d : γ → γ → Int} (hc : Cmp c) (hd : Cmp d) : Cmp (fun x y : β × γ => orZ (c x.1 y.1) (d x.2 y.2)) where
  zero := fun x y => by
    unfold orZ
    have h1 := hc.zero x.1 y.1
    have h2 := hd.zero x.2 y.2
    split
    · rename_i h
      exact ⟨fun h' => absurd h' h, fun h' => absurd (h1.2 (by rw [h'])) h⟩
    · rename_i h
      have h0 : c x.1 y.1 = 0 := by omega
      exact ⟨fun h' => Prod.ext (h1.1 h0) (h2.1 h'), fun h' => h2.2 (by rw [h'])⟩
  swap := fun x y => by
    unfold orZ
    have h1 := hc.swap x.1 y.1
    have h2 := hd.swap x.2 y.2
    split <;> split <;> omega
  tr := fun x y z => by
    unfold orZ
    intro h1 h2
    have e1 := hc.zero x.1 y.1
    have e2 := hc.zero y.1 z.1
    have t := hc.tr x.1 y.1 z.1
    have t2 := hd.tr x.2 y.2 z.2
    by_cases a : c x.1 y.1 = 0
    · have e := e1.1 a
      rw [if_neg (by omega)] at h1
      rw [e]
      by_cases b : c y.1 z.1 = 0
      · rw [if_neg (by omega)] at h2 ⊢
        exact t2 h1 h2
      · rw [if_pos b] at h2 ⊢
        exact h2
    · rw [if_pos a] at h1
      by_cases b : c y.1 z.1 = 0
      · have e := e2.1 b
        rw [← e, if_pos a]; exact h1
      · rw [if_pos b] at h2
        have := t h1 h2
        rw [if_pos (by omega)]; exact this
theorem Cmp.ord {β : Type} {c : β → β → Int} (h : Cmp c) : Ordr (fun x y => c x y < 0) where
  irr := fun x hx => by have := (h.zero x x).2 rfl; omega
  tr := fun x y z => h.tr x y z
  tri := fun x y h1 h2 => by
    have := h.swap x y
    exact (h.zero x y).1 (by omega)
theorem cmpB : Cmp cB where
  zero := fun x y => ⟨cB_zero, fun h => by rw [h]; exact cB_self y⟩
  swap := cB_swap
  tr := fun _ _ _ => cB_trans
theorem cI_swap (a b : Int) : cI b a = - cI a b := by unfold cI Go.Lib.compareInt; split <;> split <;> (try split) <;> omega
theorem cmpI : Cmp cI where
  zero := cI_z
  swap := cI_swap
  tr := fun x y z h1 h2 => by rw [cI_lt] at *; omega
theorem Cmp.key {α β : Type} {c : β → β → Int} (h : Cmp c) (f : α → β) (hf : ∀ x y, f x = f y → x = y) : Cmp (fun x y => c (f x) (f y)) where
  zero := fun x y => ⟨fun e => hf x y ((h.zero _ _).1 e), fun e => (h.zero _ _).2 (by rw [e])⟩
  swap := fun x y => h.swap _ _
  tr := fun x y z => h.tr _ _ _
theorem cmpP : Cmp cfP := by
  have := (cmpI.prod cmpI).key (fun p : Pl => (p.bx, p.sl)) (fun x y h => by
    obtain ⟨a, b⟩ := x
    obtain ⟨c, d⟩ := y
    simp only [Prod.mk.injEq] at h
    simp only [Pl.mk.injEq]; exact h)
  exact this
/-- What makes chunks twins. -/
def tkey (c : Ck) : List UInt8 × List UInt8 := (c.fq.1, c.s.data.toList)
def cT (a b : List UInt8 × List UInt8) : Int := orZ (cB a.1 b.1) (cB a.2 b.2)
theorem cmpT : Cmp cT := cmpB.prod cmpB
def cfT (a b : Ck) : Int := cT (tkey a) (tkey b)
theorem tkey_iff (a b : Ck) : tkey a = tkey b ↔ a.fq = b.fq ∧ a.s = b.s := by
  unfold tkey
  rw [Prod.mk.injEq]
  constructor
  · rintro ⟨h1, h2⟩
    exact ⟨Subtype.ext h1, ByteArray.ext (Array.toList_inj.1 h2)⟩
  · rintro ⟨h1, h2⟩
    rw [h1, h2]; exact ⟨rfl, rfl⟩
def cfC (a b : Ck) : Int := orZ (cfT a b) (cfP a.pl b.pl)
theorem cmpC : Cmp cfC := by
  have := (cmpT.prod cmpP).key (fun c : Ck => (tkey c, c.pl)) (fun x y h => by
    simp only [Prod.mk.injEq] at h
    obtain ⟨h1, h2⟩ := h
    obtain ⟨h3, h4⟩ := (tkey_iff x y).1 h1
    obtain ⟨a, b, c⟩ := x
    obtain ⟨d, e, f⟩ := y
    simp only [Ck.mk.injEq]; exact ⟨h2, h3, h4⟩)
  exact this
def ltC (a b : Ck) : Prop := cfC a b < 0
theorem ltC_ord : Ordr ltC := cmpC.ord
theorem cfC_iff (a b : Ck) : cfC a b < 0 ↔ ltC a b := Iff.rfl
/-- The first ones of their places. -/
def cnt (l : List Ck) : List Ck := l.foldl (fun out c => if c.pl ∈ out.map (·.pl) then out else out ++ [c]) []
theorem cnt_snoc (l : List Ck) (c : Ck) : cnt (l ++ [c]) = if c.pl ∈ (cnt l).map (·.pl) then cnt l else cnt l ++ [c] := by
  unfold cnt; rw [List.foldl_append]; rfl
theorem cnt_ok (l : List Ck) : ((cnt l).map (·.pl)).Nodup ∧ (∀ c ∈ cnt l, c ∈ l) ∧ (∀ p, p ∈ (cnt l).map (·.pl) ↔ p ∈ l.map (·.pl)) ∧ (cnt l).length ≤ l.length := by
  refine snoc_ind (P := fun l => ((cnt l).map (·.pl)).Nodup ∧ (∀ c ∈ cnt l, c ∈ l) ∧ (∀ p, p ∈ (cnt l).map (·.pl) ↔ p ∈ l.map (·.pl)) ∧ (cnt l).length ≤ l.length) ⟨List.nodup_nil, fun c h => h, fun p => Iff.rfl, Nat.le_refl _⟩ (fun l x ih => ?_) l
  obtain ⟨h1, h2, h3, h4⟩ := ih
  rw [cnt_snoc]
  split
  · rename_i h
    refine ⟨h1, fun c hc => List.mem_append_left _ (h2 c hc), fun p => ?_, by rw [List.length_append]; omega⟩
    rw [h3, List.map_append, List.mem_append]
    constructor
    · exact .inl
    · rintro (e | e)
      · exact e
      · simp only [List.map_cons, List.map_nil, List.mem_singleton] at e
        rw [e]; exact (h3 _).1 h
  · rename_i h
    refine ⟨?_, ?_, ?_, ?_⟩
    · rw [List.map_append, List.nodup_append]
      refine ⟨h1, by simp, fun a ha b hb => ?_⟩
      simp only [List.map_cons, List.map_nil, List.mem_singleton] at hb
      rintro rfl
      exact h (hb ▸ ha)
    · intro c hc
      rcases List.mem_append.1 hc with e | e
      · exact List.mem_append_left _ (h2 c e)
      · exact List.mem_append_right _ e
    · intro p
      rw [List.map_append, List.map_append, List.mem_append, List.mem_append, h3]
    · rw [List.length_append, List.length_append]; omega
theorem cnt_len (l : List Ck) : (cnt l).length ≤ l.length := (cnt_ok l).2.2.2
theorem cnt_nodup (l : List Ck) : (cnt l).Nodup := List.Pairwise.imp (fun h e => h (by rw [e])) (List.pairwise_map.1 (cnt_ok l).1)
theorem nodup_idx {α : Type} {l : List α} (h : l.Nodup) {i j : Nat} {x : α} {hi : i < l.length} {hj : j < l.length} (g1 : l[i] = x) (g2 : l[j] = x) : i = j := by
  rcases Nat.lt_trichotomy i j with e | e | e
  · exact absurd (g1.trans g2.symm) ((List.pairwise_iff_getElem.1 h) i j hi hj e)
  · exact e
  · exact absurd (g2.trans g1.symm) ((List.pairwise_iff_getElem.1 h) j i hj hi e)
theorem cnt_inj {l : List Ck} {a b : Ck} (ha : a ∈ cnt l) (hb : b ∈ cnt l) (h : a.pl = b.pl) : a = b := by
  obtain ⟨i, hi⟩ := List.getElem?_of_mem ha
  obtain ⟨j, hj⟩ := List.getElem?_of_mem hb
  have hn := (cnt_ok l).1
  have e1 : ((cnt l).map (·.pl))[i]? = some a.pl := by rw [List.getElem?_map, hi]; rfl
  have e2 : ((cnt l).map (·.pl))[j]? = some a.pl := by rw [List.getElem?_map, hj, h]; rfl
  have hij : i = j := by
    obtain ⟨l1, g1⟩ := List.getElem?_eq_some_iff.1 e1
    obtain ⟨l2, g2⟩ := List.getElem?_eq_some_iff.1 e2
    exact nodup_idx hn g1 g2
  subst hij
  rw [hi] at hj
  exact Option.some.inj hj
theorem sorted_strict {α : Type} {lt : α → α → Prop} {cf : α → α → Int} (h : Ordr lt) (hc : ∀ x y, cf x y < 0 ↔ lt x y) {l : List α} (hn : l.Nodup) : (sorted cf l).Pairwise lt := by
  have h1 := sorted_ord h hc l
  have h2 : (sorted cf l).Nodup := (sorted_perm cf l).nodup_iff.2 hn
  exact (h1.and h2).imp fun {x y} hh => by
    rcases Classical.em (lt x y) with e | e
    · exact e
    · exact absurd (h.tri x y e hh.1) hh.2
/-- The chunks that count, in order. -/
def srt (l : List Ck) : List Ck := sorted cfC (cnt l)
theorem srt_strict (l : List Ck) : (srt l).Pairwise ltC := sorted_strict ltC_ord cfC_iff (cnt_nodup l)
theorem srt_mem (l : List Ck) (c : Ck) : c ∈ srt l ↔ c ∈ cnt l := (sorted_perm cfC (cnt l)).mem_iff
theorem srt_len (l : List Ck) : (srt l).length = (cnt l).length := sorted_len _ _
end Go.Proofs.Ytdififdnnpgjoaa

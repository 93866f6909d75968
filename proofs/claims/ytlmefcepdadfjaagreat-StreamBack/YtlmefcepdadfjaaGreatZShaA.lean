/- Texts of this claim, one behind the other. -/
import Derived.Test.YtlmefcepdadfjaaGreatZSxO
import Derived.Test.YtlmefcepdadfjaaGreatZGen
import Derived.Test.YtlmefcepdadfjaaGreatProg
import Derived.Deep.QuietTactic
import Derived.BigQuiet
import Derived.Test.YtlmefcepdadfjaaGreatZDrawC
/- A symbolic walk: m[k] op= v, and ranges over maps. No program is named here. -/
namespace Go.Proofs.YtlmefcepdadfjaaGreat
open Go.RowKit

theorem find_at1 {α : Type} {p : α → Bool} {l : List α} {k : Nat} {x : α} (h : ∀ (j : Nat) (y : α), j < k → l[j]? = some y → p y = false) (hk : l[k]? = some x) (hx : p x = true) : l.find? p = some x := by
  induction k generalizing l with
  | zero =>
    cases l with
    | nil => cases hk
    | cons y r => obtain rfl := Option.some.inj hk; exact List.find?_cons_of_pos hx
  | succ k ih =>
    cases l with
    | nil => cases hk
    | cons y r =>
      rw [List.find?_cons_of_neg (by rw [h 0 y (by omega) rfl]; simp)]
      exact ih (fun j z hj hz => h (j + 1) z (by omega) (by simpa using hz)) (by simpa using hk)
section
variable {S : Sx} {kt : Nat} (K : KeyT S kt)
def mapB (g : Nat) (es : List (Value × Value)) (j b : Nat) : Ent := .gen
  { own := some g, uses := fun x => x = g, holds := fun w => ∃ arr clock, kvOf arr = es ∧ (∃ e : MapEntry, arr.toList[j]? = some e ∧ e.born = b) ∧ MapIs K w g arr clock,
    own_uses := fun _ h => (Option.some.inj h).symm,
    uses_lt := fun _ x h hb => by obtain ⟨arr, clock, _, _, h⟩ := h; rw [show x = g from hb]; exact (Array.getElem?_eq_some_iff.1 h.at_).1,
    kept := fun w w' row h hg hr => by
      obtain ⟨arr, clock, he, hb, h⟩ := h
      exact ⟨arr, clock, he, hb, by rw [hg.block g (Array.getElem?_eq_some_iff.1 h.at_).1 (fun e => hr g e.symm rfl)]; exact h.at_, h.ok, h.apart, h.born, h.old⟩ }
variable {W : World} {M : List Nat} {H : Hp} {w : World} {N : Nat} {F : Fr}
def IsMap (W : World) (M : List Nat) (H : Hp) (g : Nat) (es : List (Value × Value)) : Prop := ∀ w, Sat W M H w → ∃ arr clock, kvOf arr = es ∧ MapIs K w g arr clock
def LookIs (S : Sx) (et : Nat) (es : List (Value × Value)) (k : Value) (ok : Bool) (r : Value) : Prop := (∃ (j : Nat) (v : Value), es[j]? = some (k, v) ∧ r = lookV ok v true) ∨ ((∀ x ∈ es, x.1 ≠ k) ∧ ∃ i, tl S.T et = some i ∧ r = lookV ok i.zero false)
theorem look_run {o : Oper} {t et : Nat} {m x : Operand} {ok : Bool} {g : Nat} {es : List (Value × Value)} {k r : Value} (hop : o.op = .lookup t m x ok) (ht : S.P.underlying t = some (.map kt et)) (hm : ev F m = some (.map (some g))) (hx : ev F x = some k) (hp : IsMap K W M H g es) (hk : K.ok k)
    (h : LookIs S et es k ok r) (a : Act) (w : World) (ha : Agree N F a) (hs : Sat W M H w) : (execOp a.eval o).run S.P w = .ok (.value r) w := by
  obtain ⟨arr, clock, rfl, hM⟩ := hp w hs
  have e1 := K.chk arr.isEmpty hk w
  have e2 := K.find hk w arr.toList hM.ok
  obtain ⟨op, dst, ty, pos, after, guard⟩ := o
  simp only at hop
  subst hop
  rcases h with ⟨j, v, hj, rfl⟩ | ⟨hn, i, hi, rfl⟩
  · rw [fnd_at K hk hM.ok hM.apart hj] at e2
    simp only [execOp, Instr.lookup, ev_eval ha hm, ev_eval ha hx, Sem.run_bind, run_underlying ht, Result.andThen_ok, MapKept.run_getObj_map hM.at_, e1, e2, Sem.run_pure, lookV]
    cases ok <;> simp
  · rw [fnd_none K hk hM.ok hn] at e2
    simp only [execOp, Instr.lookup, ev_eval ha hm, ev_eval ha hx, Sem.run_bind, run_underlying ht, Result.andThen_ok, MapKept.run_getObj_map hM.at_, e1, e2, Sem.run_pure, lookV, run_zero hi]
    cases ok <;> simp
theorem SxSem.lookG {o : Oper} {A : Value → Hp → Prop} {t et : Nat} {m x : Operand} {ok : Bool} {g : Nat} {es : List (Value × Value)} {k r : Value} (hop : o.op = .lookup t m x ok) (ht : S.P.underlying t = some (.map kt et)) (hm : ev F m = some (.map (some g))) (hx : ev F x = some k) (hp : IsMap K W M H g es) (hk : K.ok k)
    (h : LookIs S et es k ok r) (hA : A r H) : SxSem S W M N o F H A :=
  ⟨fun a w _Q ha hs => op_value (w' := w) (look_run K hop ht hm hx hp hk h a w ha hs) hs hA⟩
theorem SxSem.mapEntry {o : Oper} {A : Value → Hp → Prop} {t et : Nat} {m x : Operand} (p : Nat) {g : Nat} {es : List (Value × Value)} {k : Value} (hop : o.op = .mapEntry t m x) (ht : S.P.underlying t = some (.map kt et)) (hm : ev F m = some (.map (some g))) (hx : ev F x = some k) (hp : H[p]? = some (mapE K g es)) (hk : K.ok k)
    (h : (∃ (j : Nat) (v : Value), es[j]? = some (k, v) ∧ ∀ b : Nat, A (.tuple #[v, .int .i64 (b : Nat)]) (H.set p (mapB K g es j b))) ∨ ((∀ x ∈ es, x.1 ≠ k) ∧ ∃ i, tl S.T et = some i ∧ ∀ b : Nat, A (.tuple #[i.zero, .int .i64 (b : Nat)]) (H.set p (mapB K g (es ++ [(k, i.zero)]) es.length b)))) : SxSem S W M N o F H A := by
  refine ⟨fun a w Q ha hs => ?_⟩
  obtain ⟨arr, clock, rfl, hM⟩ := hs.map K p hp
  have e1 := K.chk false hk w
  have e2 := K.find hk w arr.toList hM.ok
  obtain ⟨op, dst, ty, pos, after, guard⟩ := o
  simp only at hop
  subst hop
  rcases h with ⟨j, v, hj, hA⟩ | ⟨hn, i, hi, hA⟩
  · rw [fnd_at K hk hM.ok hM.apart hj, Nat.zero_add] at e2
    have hj0 := hj
    unfold kvOf at hj0
    rw [List.getElem?_map] at hj0
    obtain ⟨e, he, hkv⟩ := Option.map_eq_some_iff.1 hj0
    simp only [Prod.mk.injEq] at hkv
    have hea : arr[j]? = some e := by rw [← Array.getElem?_toList]; exact he
    obtain ⟨w', _, hw', hg, hM', hkv'⟩ := hM.put hk hj v
    have hsame : ({ key := k, val := v, born := e.born } : MapEntry) = e := by obtain ⟨a, b, c⟩ := e; simp only at hkv; obtain ⟨rfl, rfl⟩ := hkv; rfl
    have hmod : arr.modify j (fun e => { e with key := k, val := v }) = arr.modify j (fun e => { e with key := k }) := by
      apply Array.ext'
      rw [modify_toList he, modify_toList he]
      congr 1
      obtain ⟨a, b, c⟩ := e; simp only at hkv; obtain ⟨rfl, rfl⟩ := hkv; rfl
    have hset : (kvOf arr).set j (k, v) = kvOf arr := by
      apply List.ext_getElem?
      intro n
      rw [List.getElem?_set]
      by_cases hjn : j = n
      · subst hjn
        have hl := (List.getElem?_eq_some_iff.1 hj).1
        rw [if_pos rfl, if_pos hl, hj]
      · rw [if_neg hjn]
    rw [hset] at hkv'
    have e3 := K.stays hk w
    have hb : (arr.modify j fun e => { e with key := k, val := v }).toList[j]? = some e := by
      rw [modify_toList he, hsame, List.getElem?_set_self ((List.getElem?_eq_some_iff.1 he).1)]
    refine op_value (w' := w') ?_ (hs.set hp (by rw [show (mapE K g (kvOf arr)).own = some g from rfl]; exact hg) (e' := mapB K g (kvOf arr) j e.born) ⟨_, clock, hkv', ⟨e, hb, rfl⟩, hM'⟩ fun x hx => .inl (by rw [show x = g from hx]; rfl)) (hA e.born)
    simp only [execOp, Instr.mapEntry, ev_eval ha hm, ev_eval ha hx, Sem.run_bind, run_underlying ht, Result.andThen_ok, MapKept.run_getObj_map hM.at_, e1, e2, hea, Option.map_some, Option.getD_some, hkv.1, e3, MapKept.run_setObj_map _ hM.at_, Sem.run_pure, goInt]
    rw [hw', hmod]
  · rw [fnd_none K hk hM.ok hn] at e2
    obtain ⟨hg, hM', hkv⟩ := hM.push hk hn i.zero
    have hb : (arr.push ⟨k, i.zero, clock⟩).toList[(kvOf arr).length]? = some ⟨k, i.zero, clock⟩ := by
      unfold kvOf
      rw [Array.toList_push, List.length_map, List.getElem?_append_right (Nat.le_refl _), Nat.sub_self]
      rfl
    refine op_value ?_ (hs.set hp (by rw [show (mapE K g (kvOf arr)).own = some g from rfl]; exact hg) (e' := mapB K g (kvOf arr ++ [(k, i.zero)]) (kvOf arr).length clock) ⟨_, clock + 1, hkv, ⟨_, hb, rfl⟩, hM'⟩ fun x hx => .inl (by rw [show x = g from hx]; rfl)) (hA clock)
    simp only [execOp, Instr.mapEntry, ev_eval ha hm, ev_eval ha hx, Sem.run_bind, run_underlying ht, Result.andThen_ok, MapKept.run_getObj_map hM.at_, e1, e2, run_zero hi, MapKept.run_setObj_map _ hM.at_, Sem.run_pure, goInt]
theorem born_inj {g : Nat} {arr : Array MapEntry} {clock : Nat} (hM : MapIs K w g arr clock) {i j : Nat} {e f : MapEntry} (hi : arr.toList[i]? = some e) (hj : arr.toList[j]? = some f) (h : e.born = f.born) : i = j := by
  obtain ⟨hil, rfl⟩ := List.getElem?_eq_some_iff.1 hi
  obtain ⟨hjl, rfl⟩ := List.getElem?_eq_some_iff.1 hj
  have hp := List.pairwise_iff_getElem.1 hM.born
  rcases Nat.lt_trichotomy i j with hlt | he | hlt
  · have := hp i j (by simpa using hil) (by simpa using hjl) hlt
    simp only [List.getElem_map] at this
    omega
  · exact he
  · have := hp j i (by simpa using hjl) (by simpa using hil) hlt
    simp only [List.getElem_map] at this
    omega
theorem SxSem.entryStore {o : Oper} {A : Value → Hp → Prop} {t : Nat} {m x y : Operand} (p : Nat) {g j b : Nat} {es : List (Value × Value)} {k v0 v : Value} (hop : o.op = .entryStore t m x y) (hm : ev F m = some (.map (some g))) (hx : ev F x = some (.int .i64 (b : Nat))) (hy : ev F y = some v) (hp : H[p]? = some (mapB K g es j b)) (hj : es[j]? = some (k, v0))
    (h : A undef (H.set p (mapE K g (es.set j (k, v))))) : SxSem S W M N o F H A := by
  refine ⟨fun a w Q ha hs => ?_⟩
  obtain ⟨arr, clock, rfl, ⟨e, he, hb⟩, hM⟩ := hs.holds p _ hp
  obtain ⟨op, dst, ty, pos, after, guard⟩ := o
  simp only at hop
  subst hop
  have hk : e.key = k ∧ e.val = v0 := by
    unfold kvOf at hj
    rw [List.getElem?_map, he] at hj
    simpa using hj
  obtain ⟨hk, _⟩ := hk
  have hok : K.ok k := by rw [← hk]; exact hM.ok e (List.mem_of_getElem? he)
  obtain ⟨w', _, hw', hg, hM', hkv'⟩ := hM.put hok hj v
  have hmod : arr.modify j (fun e => { e with key := k, val := v }) = arr.modify j (fun e => { e with val := v }) := by
    apply Array.ext'
    rw [modify_toList he, modify_toList he, ← hk]
  have hl := (List.getElem?_eq_some_iff.1 he).1
  have hea : arr[j]? = some e := by rw [← Array.getElem?_toList]; exact he
  have hfi : arr.findIdx? (fun e => ((e.born : Nat) : Int) == ((b : Nat) : Int)) = some j := by
    rw [Array.findIdx?_eq_some_iff_getElem]
    have hjs : j < arr.size := by simpa using hl
    have hej : arr[j] = e := by rw [Array.getElem?_eq_getElem hjs] at hea; exact Option.some.inj hea
    refine ⟨hjs, by rw [hej, hb]; exact beq_self_eq_true _, fun i hi => ?_⟩
    intro hc
    have hc2 : arr[i].born = b := by have := eq_of_beq hc; omega
    have := born_inj K hM (i := i) (j := j) (e := arr[i]) (f := e) (by rw [Array.getElem?_toList, Array.getElem?_eq_getElem (by omega)]) he (by rw [hc2, hb])
    omega
  refine op_skip (w' := w') ?_ (hs.set hp (by rw [show (mapB K g (kvOf arr) j b).own = some g from rfl]; exact hg) (e' := mapE K g ((kvOf arr).set j (k, v))) ⟨_, clock, hkv', hM'⟩ fun x hx => .inl (by rw [show x = g from hx]; rfl)) h
  simp [execOp, Instr.entryStore, ev_eval ha hm, ev_eval ha hx, ev_eval ha hy, MapKept.run_getObj_map hM.at_, asInt, asIntOf, hfi, MapKept.run_setObj_map _ hM.at_]
  rw [hw', hmod]
def MapH (w : World) (g : Nat) (es : List (Value × Value)) : Prop := ∃ arr clock, kvOf arr = es ∧ MapIs K w g arr clock
theorem MapH.lt {g : Nat} {es : List (Value × Value)} (h : MapH K w g es) : g < w.heap.size := by
  obtain ⟨arr, clock, _, h⟩ := h
  exact (Array.getElem?_eq_some_iff.1 h.at_).1
theorem MapH.kept {w w' : World} {row : Option Nat} {g : Nat} {es : List (Value × Value)} (h : MapH K w g es) (hg : w.grownBy w' row) (hr : row ≠ some g) : MapH K w' g es := by
  obtain ⟨arr, clock, he, h⟩ := h
  exact ⟨arr, clock, he, by rw [hg.block g (Array.getElem?_eq_some_iff.1 h.at_).1 (fun e => hr e.symm)]; exact h.at_, h.ok, h.apart, h.born, h.old⟩
def mapR (g : Nat) (es : List (Value × Value)) : Ent := .gen
  { own := none, uses := fun b => b = g, holds := fun w => MapH K w g es,
    own_uses := fun _ h => (by cases h),
    uses_lt := fun _ b h hb => by rw [show b = g from hb]; exact h.lt,
    kept := fun w w' row h hg hr => h.kept K hg fun e => hr g e rfl }
theorem IsMap.r {p g : Nat} {es : List (Value × Value)} (hp : H[p]? = some (mapR K g es)) : IsMap K W M H g es := fun _ hs => hs.holds p _ hp
theorem Sat.rdsM (W : World) (M : List Nat) (H : Hp) (h : ∀ (i : Nat) (e : Ent), H[i]? = some e → e.own = none ∧ e.Holds W) : Sat W M H W :=
  ⟨Touch.refl _ _, fun i e hi => (h i e hi).2, fun i e hi g hg => (by rw [(h i e hi).1] at hg; cases hg), fun i j a b _ hi _ g hg => (by rw [(h i a hi).1] at hg; cases hg)⟩
end
end Go.Proofs.YtlmefcepdadfjaaGreat
/- Plain: the words and rounds of SHA-256 on numbers below 2^32. The walks over RotateLeft32, the package's over, the document's turned. -/
namespace Go.Proofs.YtlmefcepdadfjaaGreat
open Go.RowKit

def rotr (x n : Nat) : Nat := (x / 2 ^ n) ||| (x * 2 ^ (32 - n) % 4294967296)
theorem rotr_lt (x n : Nat) (hx : x < 4294967296) : rotr x n < 4294967296 :=
  Nat.or_lt_two_pow (n := 32) (Nat.lt_of_le_of_lt (Nat.div_le_self _ _) hx) (Nat.mod_lt _ (by omega))
def overS (x a b d : Nat) : Nat := rotr x a ^^^ rotr x b ^^^ (x / 2 ^ d)
def overR (x a b c : Nat) : Nat := rotr x a ^^^ rotr x b ^^^ rotr x c
theorem u32_orI (a b : Int) (x y : Nat) (ha : a = (x : Int)) (hb : b = (y : Int)) (hx : x < 4294967296) (hy : y < 4294967296) : bits BinOp.or IntKind.u32 a b = ((x ||| y : Nat) : Int) := by
  subst ha; subst hb; exact u32_or_nat x y hx hy
theorem u32_xorI (a b : Int) (x y : Nat) (ha : a = (x : Int)) (hb : b = (y : Int)) (hx : x < 4294967296) (hy : y < 4294967296) : bits BinOp.xor IntKind.u32 a b = ((x ^^^ y : Nat) : Int) := by
  subst ha; subst hb; exact u32_xor_nat x y hx hy
theorem rotr_bits (x n : Nat) (hx : x < 4294967296) : bits BinOp.or IntKind.u32 ((x : Int) / 2 ^ n) ((x : Int) * 2 ^ (32 - n) % 4294967296) = (rotr x n : Nat) :=
  u32_orI _ _ (x / 2 ^ n) (x * 2 ^ (32 - n) % 4294967296) (by simp) (by simp) (Nat.lt_of_le_of_lt (Nat.div_le_self _ _) hx) (Nat.mod_lt _ (by omega))
theorem rotl_bits (x n : Nat) (hx : x < 4294967296) (h1 : 1 ≤ n) (h2 : n ≤ 31) : bits BinOp.or IntKind.u32 ((x : Int) * 2 ^ n % 4294967296) ((x : Int) / 2 ^ (32 - n)) = (rotr x (32 - n) : Nat) := by
  rw [u32_orI _ _ (x * 2 ^ n % 4294967296) (x / 2 ^ (32 - n)) (by simp) (by simp) (Nat.mod_lt _ (by omega)) (Nat.lt_of_le_of_lt (Nat.div_le_self _ _) hx), rotr, Nat.or_comm, show 32 - (32 - n) = n by omega]
theorem turned_any (x : Nat) (hx : x < 4294967296) (k : Int) (n : Nat) (hk : k = (n : Int)) (h1 : 1 ≤ n) (h2 : n ≤ 31) (w : World) :
    Calls Tryz.prog 77 #[.int .u32 (x : Nat), .int .i64 k] w fun e w' => e = .returned (.int .u32 (rotr x n : Nat)) ∧ w = w' := by
  subst hk
  have hr := rotr_bits x n hx
  have HR := Go.Lib.hid hr; clear hr
  go_enter Tryz.func77, Tryz.ntmps77
  go_wp2
  go_ret
  exact ⟨ret_int HR.out, rfl⟩
theorem and31 : ∀ a : Nat, a < 32 → 1 ≤ a → bits BinOp.and IntKind.u64 (IntKind.u64.wrap (-(a : Int))) 31 = ((32 - a : Nat) : Int) := by decide +kernel
theorem rotl_any (x : Nat) (hx : x < 4294967296) (k : Int) (n : Nat) (hk : k = -(n : Int)) (h1 : 1 ≤ n) (h2 : n ≤ 31) (w : World) :
    Calls Tryz.prog 174 #[.int .u32 (x : Nat), .int .i64 k] w fun e w' => e = .returned (.int .u32 (rotr x n : Nat)) ∧ w = w' := by
  have he := and31 n (by omega) h1
  rw [← hk] at he
  obtain ⟨m, hm⟩ : ∃ m, 32 - n = m := ⟨_, rfl⟩
  rw [hm] at he
  have hr := rotl_bits x m hx (by omega) (by omega)
  have h3 : 1 ≤ m ∧ m ≤ 31 := by omega
  have h4 : 32 - m = n := by omega
  rw [h4] at hr
  obtain ⟨h5, h6⟩ := h3
  have HR := Go.Lib.hid hr; have H4 := Go.Lib.hid h4
  clear hr hk hm h4 h1 h2
  go_enter Tryz.func174, Tryz.ntmps174
  go_wp2
  go_ret
  exact ⟨ret_int (by rw [← HR.out, H4.out]), rfl⟩
theorem over_s (x : Nat) (hx : x < 4294967296) (a b c d : Int) (ha : 1 ≤ a ∧ a ≤ 31) (hb : 1 ≤ b ∧ b ≤ 31) (hd : 1 ≤ d ∧ d ≤ 31) (w : World) :
    Calls Tryz.prog 162 #[.int .u32 (x : Nat), .int .i64 a, .int .i64 b, .int .i64 c, .int .i64 d] w fun e w' => e = .returned (.int .u32 (overS x a.toNat b.toNat d.toNat : Nat)) ∧ w = w' := by
  obtain ⟨a1, a2⟩ := ha; obtain ⟨b1, b2⟩ := hb; obtain ⟨d1, d2⟩ := hd
  have r1 := rotr_lt x a.toNat hx
  have r2 := rotr_lt x b.toNat hx
  have r3 := xor_lt32 r1 r2
  have r4 : x / 2 ^ d.toNat < 4294967296 := Nat.lt_of_le_of_lt (Nat.div_le_self _ _) hx
  have hv : ∀ y : Int, y = ((x / 2 ^ d.toNat : Nat) : Int) → bits BinOp.xor IntKind.u32 ((rotr x a.toNat ^^^ rotr x b.toNat : Nat) : Int) y = (overS x a.toNat b.toNat d.toNat : Nat) := fun y hy => u32_xorI _ _ _ _ rfl hy r3 r4
  have HV := Go.Lib.hid hv
  clear hv r3 r4
  go_enter Tryz.func162, Tryz.ntmps162
  go_wp2_with fail
  refine (rotl_any x hx _ a.toNat (by omega) (by omega) (by omega) _).mono ?_
  rintro e w1 ⟨rfl, rfl⟩
  go_wp2_with fail
  refine (rotl_any x hx _ b.toNat (by omega) (by omega) (by omega) _).mono ?_
  rintro e w1 ⟨rfl, rfl⟩
  go_wp2_with fail
  go_ret
  exact ⟨ret_int (HV.out _ (by simp)), rfl⟩
theorem over_r (x : Nat) (hx : x < 4294967296) (a b c : Int) (ha : 1 ≤ a ∧ a ≤ 31) (hb : 1 ≤ b ∧ b ≤ 31) (hc : 1 ≤ c ∧ c ≤ 31) (w : World) :
    Calls Tryz.prog 162 #[.int .u32 (x : Nat), .int .i64 a, .int .i64 b, .int .i64 c, .int .i64 0] w fun e w' => e = .returned (.int .u32 (overR x a.toNat b.toNat c.toNat : Nat)) ∧ w = w' := by
  obtain ⟨a1, a2⟩ := ha; obtain ⟨b1, b2⟩ := hb; obtain ⟨d1, d2⟩ := hc
  have r1 := rotr_lt x a.toNat hx
  have r2 := rotr_lt x b.toNat hx
  have r3 := xor_lt32 r1 r2
  have r4 := rotr_lt x c.toNat hx
  go_enter Tryz.func162, Tryz.ntmps162
  go_wp2_with fail
  refine (rotl_any x hx _ a.toNat (by omega) (by omega) (by omega) _).mono ?_
  rintro e w1 ⟨rfl, rfl⟩
  go_wp2_with fail
  refine (rotl_any x hx _ b.toNat (by omega) (by omega) (by omega) _).mono ?_
  rintro e w1 ⟨rfl, rfl⟩
  go_wp2_with fail
  refine (rotl_any x hx _ c.toNat (by omega) (by omega) (by omega) _).mono ?_
  rintro e w1 ⟨rfl, rfl⟩
  go_wp2_with fail
  go_ret
  exact ⟨rfl, rfl⟩
end Go.Proofs.YtlmefcepdadfjaaGreat

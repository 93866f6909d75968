/- Texts of this claim, one behind the other. -/
import Derived.Test.YtlmefcepdadfjaaGreatZSlSr
import Derived.Test.YtlmefcepdadfjaaGreatZDrawC
import Derived.Test.YtlmefcepdadfjaaGreatZSlFp
import Derived.Test.YtlmefcepdadfjaaGreatZMtB
import Derived.Test.YtlmefcepdadfjaaGreatZOwnD
import Derived.Test.YtlmefcepdadfjaaGreatZPlR
import Derived.Test.YtlmefcepdadfjaaGreatZGen
import Derived.Test.YtlmefcepdadfjaaGreatZStV
/- Layer 23: the law's own: a case as it came in; what is light, what is apart. -/
namespace Go.Proofs.YtlmefcepdadfjaaGreat
open Go.RowKit

structure Tw where
  s : ByteArray
  bx : Nat
  sl : Nat
  other : Bool
  none_ : Bool
  h1 : bx < 256
  h2 : sl < 256
instance : Inhabited Tw := ⟨⟨⟨#[]⟩, 0, 0, false, false, by decide, by decide⟩⟩
def twC (t : Tw) : List Value := [.string t.s, .int .u8 (t.bx : Nat), .int .u8 (t.sl : Nat), .bool t.other, .bool t.none_]
def twE : Enc Tw := ⟨twC, 5, by decide, fun _ => rfl, fun _ => rfl⟩
theorem twE_len (l : List Tw) : (twE.fl l).length = l.length * 5 := twE.fl_len l
theorem tw_cell {l : List Tw} {k : Nat} {x : Tw} (j : Nat) {v : Value} (h : l[k]? = some x) (hv : (twC x)[j]? = some v) : (twE.fl l)[k * 5 + j]? = some v := twE.fl_cell (j := j) h hv
theorem open_tws {w : World} {d : Nat} {v : Value} (hv : FitK Tryz.prog w (d + 1) (.slice 90) v) : ∃ (ao : Option Addr) (n cap : Nat), v = .slice ao n cap ∧ n ≤ maxLen ∧ ∃ l : List Tw, l.length = min n 1000 ∧ Rd w ao (twE.fl l) :=
  open_rows twE (by show 5 ≤ 100; decide) [.str, .int .u8, .int .u8, .bool, .bool] hv (by kernel_rfl) (by kernel_rfl) rfl fun cs h => by
    obtain ⟨hl, hf⟩ := h
    match cs, hl with
    | [a, b, c, x, y], _ =>
      obtain ⟨a, rfl, _⟩ := fitK_str (hf 0 _ _ rfl rfl)
      obtain ⟨b, rfl, hb⟩ := fitK_int (hf 1 _ _ rfl rfl)
      obtain ⟨c, rfl, hc⟩ := fitK_int (hf 2 _ _ rfl rfl)
      obtain ⟨x, rfl⟩ := fitK_bool (hf 3 _ _ rfl rfl)
      obtain ⟨y, rfl⟩ := fitK_bool (hf 4 _ _ rfl rfl)
      obtain ⟨b, hb8, rfl⟩ := nat_u8 hb
      obtain ⟨c, hc8, rfl⟩ := nat_u8 hc
      exact ⟨⟨a, b, c, x, y, hb8, hc8⟩, rfl⟩
structure Gr where
  ao : Option Addr
  n : Nat
  cap : Nat
def okGr (w : World) (g : Gr) : Prop := ∃ l : List Tw, l.length = min g.n 1000 ∧ Rd w g.ao (twE.fl l)
abbrev Gw (w : World) := {g : Gr // okGr w g}
instance (w : World) : Inhabited (Gw w) := ⟨⟨⟨none, 0, 0⟩, [], rfl, by decide, fun h => absurd h (by decide)⟩⟩
def gwE (w : World) : Enc (Gw w) := ⟨fun g => [.slice g.1.ao g.1.n g.1.cap], 1, by decide, fun _ => rfl, fun _ => rfl⟩
theorem gwE_len {w : World} (l : List (Gw w)) : ((gwE w).fl l).length = l.length * 1 := (gwE w).fl_len l
theorem gwE_at {w : World} {l : List (Gw w)} {k : Nat} {x : Gw w} (h : l[k]? = some x) : ((gwE w).fl l)[k * 1]? = some (.slice x.1.ao x.1.n x.1.cap) := (gwE w).fl_cell (j := 0) h rfl
noncomputable def Gw.l {w : World} (g : Gw w) : List Tw := Classical.choose g.2
theorem Gw.l_spec {w : World} (g : Gw w) : g.l.length = min g.1.n 1000 ∧ Rd w g.1.ao (twE.fl g.l) := Classical.choose_spec g.2
theorem open_gws {w : World} {d : Nat} {v : Value} (hv : FitK Tryz.prog w (d + 2) (.slice 88) v) : ∃ (ao : Option Addr) (n cap : Nat), v = .slice ao n cap ∧ n ≤ maxLen ∧ ∃ l : List (Gw w), l.length = min n 1000 ∧ Rd w ao ((gwE w).fl l) :=
  open_rows (gwE w) (by show 1 ≤ 100; decide) [.slice 90] hv (by kernel_rfl) (by kernel_rfl) rfl fun cs h => by
    obtain ⟨hl, hf⟩ := h
    match cs, hl with
    | [y], _ =>
      obtain ⟨ao, n, cap, rfl, _, h2⟩ := open_tws (hf 0 _ _ rfl rfl)
      exact ⟨⟨⟨ao, n, cap⟩, h2⟩, rfl⟩
def caC (c : Nat → Int) (box man : Int) (gv pv : Value) : List Value := [confV c 0, confV c 1, confV c 2, confV c 3, confV c 4, confV c 5, confV c 6, confV c 7, confV c 8, confV c 9, confV c 10, confV c 11, confV c 12, .int .u32 box, .int .u32 man, gv, pv]
theorem szB_take1 {l : List ByteArray} {i : Nat} {s : ByteArray} (h : l[i]? = some s) : szB (l.take (i + 1)) = szB (l.take i) + s.size := by rw [take_snocE h, szB_snoc]
theorem apart_any (c : Nat → Int) (box man : Int) (gv pv : Value) (w : World) : Calls Tryz.prog 10 #[.agg (caC c box man gv pv).toArray] w fun e w' => e = .returned (.bool (decide (box > 300))) ∧ Below w.heap.size w w' := by
  refine sx_fn (S := SX) (M := []) (N := 6) (H0 := []) Tryz.func10 rfl rfl rfl (Sat.nil _ _) ?_
  ((try refine sU ?_);repeat(refine sN fun _=>?_;try refine sU ?_))
  exact SxDone.mk fun w' hs => ⟨rfl, hs.touch.below⟩
noncomputable def gwL {w : World} (gs : List (Gw w)) : RdL := gs.map fun g => (g.1.ao, twE.fl g.l)
theorem gwL_mem {w : World} {gs : List (Gw w)} {g : Gw w} (h : g ∈ gs) : (g.1.ao, twE.fl g.l) ∈ gwL gs := List.mem_map.2 ⟨g, h, rfl⟩
structure Light {w : World} (gn : Nat) (gs : List (Gw w)) (pn : Nat) (ps : List ByteArray) : Prop where
  gn : gn ≤ 6
  pn : pn ≤ 10
  g : ∀ x ∈ gs, x.1.n ≤ 10 ∧ ∀ t ∈ x.l, t.s.size ≤ 60
  p : szB ps ≤ 500
set_option maxHeartbeats 8000000 in
theorem light_any {w0 : World} (c : Nat → Int) (box man : Int) (go : Option Addr) (gn gc : Nat) (gs : List (Gw w0)) (po : Option Addr) (pn pc : Nat) (ps : List ByteArray) (hgl : gs.length = min gn 1000) (hpl : ps.length = min pn 1000) (w : World) (hg : Rd w go ((gwE w0).fl gs)) (ht : RdAll w (gwL gs)) (hp : Rd w po (strE.fl ps)) :
    Calls Tryz.prog 8 #[.agg (caC c box man (.slice go gn gc) (.slice po pn pc)).toArray] w fun e w' => ∃ v, e = .returned v ∧ (v = .bool false ∨ (v = .bool true ∧ Light gn gs pn ps)) ∧ Below w.heap.size w w' := by
  refine sx_fn (S := SX) (M := []) (N := 90) (H0 := [.rd go ((gwE w0).fl gs), .gen (rdsG (gwL gs)), .rd po (strE.fl ps)]) Tryz.func8 rfl rfl rfl (Sat.rdsM w [] _ fun j e hj => by
    match j, hj with
    | 0, hj => cases hj; exact ⟨rfl, hg⟩
    | 1, hj => cases hj; exact ⟨rfl, ht⟩
    | 2, hj => cases hj; exact ⟨rfl, hp⟩) ?_
  ((try refine sU ?_);repeat(refine sN fun _=>?_;try refine sU ?_))
  rename_i b0
  refine SxCode.loop (σ := Nat) [3, 4, 2] [7, 8, 9, 10, 11, 12, 13, 14, 15, 18, 19, 20, 21, 22, 23, 24, 2, 25, 26, 27, 28, 29, 30, 31, 32, 3, 16, 17, 4] (fun i => [.int .i64 (szB (ps.take i) : Nat), .int .i64 (i : Nat), .bool false]) (fun _ => [.blk b0 28 (caC c box man (.slice go gn gc) (.slice po pn pc)), .rd go ((gwE w0).fl gs), .gen (rdsG (gwL gs)), .rd po (strE.fl ps)]) (fun i => i ≤ pn ∧ i ≤ 10 ∧ szB (ps.take i) ≤ 300 * i) (fun i => pn - i) 0 [0, 1, 2, 3] rfl rfl rfl rfl ⟨Nat.zero_le _, by omega, Nat.le_refl _⟩ ?_
  rintro i ⟨hi, hi10, hsz⟩
  by_cases hlt : i < pn ∧ i < 10
  · obtain ⟨h1, h2⟩ := hlt
    obtain ⟨s, hs⟩ : ∃ s, ps[i]? = some s := ⟨ps[i]'(by omega), by simp [show i < ps.length by omega]⟩
    have hsn := szB_take1 hs
    ((try refine sU ?_);repeat(refine sN fun _=>?_;try refine sU ?_))
    refine SxIA.rd 3 _ rfl i rfl (by omega) (by rw [strE_len]; omega) fun g off ha => ?_
    ((try refine sU ?_);repeat(refine sN fun _=>?_;try refine sU ?_))
    refine SxLd.rd 3 rfl ha rfl (j := i * 1) (strE_at hs) ?_
    ((try refine sU ?_);repeat(refine sN fun _=>?_;try refine sU ?_))
    refine SxIf.dec (fun h3 => ?_) (fun h3 => ?_)
    · ((try refine sU ?_);repeat(refine sN fun _=>?_;try refine sU ?_))
      exact SxDone.mk fun w' hs => ⟨_, rfl, .inl rfl, hs.touch.below⟩
    · ((try refine sU ?_);repeat(refine sN fun _=>?_;try refine sU ?_))
      refine SxIA.rd 3 _ rfl i rfl (by omega) (by rw [strE_len]; omega) fun g off ha => ?_
      ((try refine sU ?_);repeat(refine sN fun _=>?_;try refine sU ?_))
      refine SxLd.rd 3 rfl ha rfl (j := i * 1) (strE_at hs) ?_
      ((try refine sU ?_);repeat(refine sN fun _=>?_;try refine sU ?_))
      refine SxRound.mk (i + 1) [0, 1, 2, 3] (by rw [hsn]; rfl) rfl rfl ⟨by omega, by omega, by omega⟩ (by omega)
  have hout : pn ≤ 10 → ps.take i = ps := fun h => List.take_of_length_le (by omega)
  obtain ⟨K, hK⟩ : ∃ K, K = szB (ps.take i) := ⟨_, rfl⟩
  rw [← hK] at hsz ⊢
  have hKp : pn ≤ 10 → K = szB ps := fun h => by rw [hK, hout h]
  by_cases hlt2 : i < pn
  all_goals
    ((try refine sU ?_);repeat(refine sN fun _=>?_;try refine sU ?_))
    refine SxCode.loop (σ := Nat) [5, 2] [33, 34, 35, 36, 37, 38, 39, 40, 41, 6, 44, 45, 46, 47, 48, 49, 50, 51, 52, 53, 54, 55, 58, 59, 60, 61, 62, 63, 64, 65, 66, 67, 68, 2, 56, 57, 69, 70, 71, 72, 73, 74, 75, 42, 43, 5] (fun i => [.int .i64 (i : Nat), .bool false]) (fun _ => [.blk b0 28 (caC c box man (.slice go gn gc) (.slice po pn pc)), .rd go ((gwE w0).fl gs), .gen (rdsG (gwL gs)), .rd po (strE.fl ps)]) (fun j => j ≤ gn ∧ j ≤ 6 ∧ ∀ x ∈ gs.take j, x.1.n ≤ 10 ∧ ∀ t ∈ x.l, t.s.size ≤ 60) (fun i => gn - i) 0 [0, 1, 2, 3] rfl rfl rfl rfl ⟨Nat.zero_le _, by omega, fun x hx => by cases hx⟩ ?_
    rintro j ⟨hj, hj6, hgs⟩
    by_cases hjlt : j < gn ∧ j < 6
    · obtain ⟨h1, h2⟩ := hjlt
      obtain ⟨G, hG⟩ : ∃ G, gs[j]? = some G := ⟨gs[j]'(by omega), by simp [show j < gs.length by omega]⟩
      have hGm := List.mem_of_getElem? hG
      have hGl := G.l_spec.1
      have hi1 : j * 1 < ((gwE w0).fl gs).length := by rw [gwE_len]; omega
      ((try refine sU ?_);repeat(refine sN fun _=>?_;try refine sU ?_))
      refine SxCode.loop (σ := Nat) [6, 2] [44, 45, 46, 47, 48, 49, 50, 51, 52, 53, 54, 55, 58, 59, 60, 61, 62, 63, 64, 65, 66, 67, 68, 2, 56, 57, 6] (fun k => [.int .i64 (k : Nat), .bool false]) (fun _ => [.blk b0 28 (caC c box man (.slice go gn gc) (.slice po pn pc)), .rd go ((gwE w0).fl gs), .gen (rdsG (gwL gs)), .rd po (strE.fl ps)]) (fun k => k ≤ G.1.n ∧ k ≤ 10 ∧ ∀ t ∈ G.l.take k, t.s.size ≤ 60) (fun k => 10 - k) 0 [0, 1, 2, 3] rfl rfl rfl rfl ⟨Nat.zero_le _, by omega, fun x hx => by cases hx⟩ ?_
      rintro k ⟨hk, hk10, hts⟩
      rcases (by omega : (k < G.1.n ∧ k < 10) ∨ (k < G.1.n ∧ ¬ k < 10) ∨ ¬ k < G.1.n) with ⟨h3, h4⟩ | ⟨h3, h4⟩ | h3
      · obtain ⟨t, ht⟩ : ∃ t, G.l[k]? = some t := ⟨G.l[k]'(by omega), by simp [show k < G.l.length by omega]⟩
        have hsn := take_snocE ht
        ((try refine sU ?_);repeat(refine sN fun _=>?_;try refine sU ?_))
        refine SxIA.rd 1 _ rfl j rfl h1 hi1 fun g off ha => ?_
        ((try refine sU ?_);repeat(refine sN fun _=>?_;try refine sU ?_))
        refine SxLd.rd 1 rfl ha rfl (j := j * 1) (gwE_at hG) ?_
        ((try refine sU ?_);repeat(refine sN fun _=>?_;try refine sU ?_))
        refine SxIA.rd 1 _ rfl j rfl h1 hi1 fun g off ha => ?_
        ((try refine sU ?_);repeat(refine sN fun _=>?_;try refine sU ?_))
        refine SxLd.rd 1 rfl ha rfl (j := j * 1) (gwE_at hG) ?_
        ((try refine sU ?_);repeat(refine sN fun _=>?_;try refine sU ?_))
        refine SxIA.of 2 rfl (gwL_mem hGm) k rfl h3 (by rw [twE_len]; omega) fun g off ha => ?_
        ((try refine sU ?_);repeat(refine sN fun _=>?_;try refine sU ?_))
        refine SxLd.of 2 rfl (gwL_mem hGm) ha rfl (j := k * 5) (tw_cell 0 ht rfl) ?_
        ((try refine sU ?_);repeat(refine sN fun _=>?_;try refine sU ?_))
        refine SxIf.dec (fun h5 => ?_) (fun h5 => ?_)
        · ((try refine sU ?_);repeat(refine sN fun _=>?_;try refine sU ?_))
          exact SxDone.mk fun w' hs => ⟨_, rfl, .inl rfl, hs.touch.below⟩
        · ((try refine sU ?_);repeat(refine sN fun _=>?_;try refine sU ?_))
          refine SxRound.mk (k + 1) [0, 1, 2, 3] rfl rfl rfl ⟨h3, h4, fun t' ht' => ?_⟩ (by omega)
          rw [hsn] at ht'
          rcases List.mem_append.1 ht' with h6 | h6
          · exact hts t' h6
          · obtain rfl := List.mem_singleton.1 h6
            omega
      · ((try refine sU ?_);repeat(refine sN fun _=>?_;try refine sU ?_))
        refine SxIA.rd 1 _ rfl j rfl h1 hi1 fun g off ha => ?_
        ((try refine sU ?_);repeat(refine sN fun _=>?_;try refine sU ?_))
        refine SxLd.rd 1 rfl ha rfl (j := j * 1) (gwE_at hG) ?_
        ((try refine sU ?_);repeat(refine sN fun _=>?_;try refine sU ?_))
        refine SxIA.rd 1 _ rfl j rfl h1 hi1 fun g off ha => ?_
        ((try refine sU ?_);repeat(refine sN fun _=>?_;try refine sU ?_))
        refine SxLd.rd 1 rfl ha rfl (j := j * 1) (gwE_at hG) ?_
        ((try refine sU ?_);repeat(refine sN fun _=>?_;try refine sU ?_))
        exact SxDone.mk fun w' hs => ⟨_, rfl, .inl rfl, hs.touch.below⟩
      · ((try refine sU ?_);repeat(refine sN fun _=>?_;try refine sU ?_))
        refine SxIA.rd 1 _ rfl j rfl h1 hi1 fun g off ha => ?_
        ((try refine sU ?_);repeat(refine sN fun _=>?_;try refine sU ?_))
        refine SxLd.rd 1 rfl ha rfl (j := j * 1) (gwE_at hG) ?_
        ((try refine sU ?_);repeat(refine sN fun _=>?_;try refine sU ?_))
        refine SxIA.rd 1 _ rfl j rfl h1 hi1 fun g off ha => ?_
        ((try refine sU ?_);repeat(refine sN fun _=>?_;try refine sU ?_))
        refine SxLd.rd 1 rfl ha rfl (j := j * 1) (gwE_at hG) ?_
        ((try refine sU ?_);repeat(refine sN fun _=>?_;try refine sU ?_))
        have hk9 : k = G.1.n := by omega
        refine SxRound.mk (j + 1) [0, 1, 2, 3] rfl rfl rfl ⟨h1, h2, fun y hy => ?_⟩ (by omega)
        rw [take_snocE hG] at hy
        rcases List.mem_append.1 hy with h6 | h6
        · exact hgs y h6
        · obtain rfl := List.mem_singleton.1 h6
          refine ⟨by omega, fun t ht => hts t ?_⟩
          rw [List.take_of_length_le (by omega)]; exact ht
    · rcases (by omega : (j < gn ∧ ¬ j < 6) ∨ ¬ j < gn) with ⟨h1, h2⟩ | h1
      all_goals
        ((try refine sU ?_);repeat(refine sN fun _=>?_;try refine sU ?_))
        refine SxDone.mk fun w' hs => ⟨_, rfl, ?_, hs.touch.below⟩
        first
          | exact .inl rfl
          | (cases hd : decide ((K : Int) ≤ 500) with
             | false => exact .inl rfl
             | true =>
               refine .inr ⟨rfl, by omega, by omega, fun y hy => hgs y ?_, by rw [← hKp (by omega)]; have := of_decide_eq_true hd; omega⟩
               rw [List.take_of_length_le (by omega)]; exact hy)
end Go.Proofs.YtlmefcepdadfjaaGreat
/- Layer 23: the law's own: the document's library of a case. -/
namespace Go.Proofs.YtlmefcepdadfjaaGreat
open Go.RowKit

def bangB : ByteArray := ⟨#[33]⟩
def Tw.rk (t : Tw) : Rk := ⟨⟨(bFq t.s).1, (t.s.size : Nat), (t.bx : Int) + 1, (t.sl : Nat), (bFq t.s).2⟩, !t.none_, if t.other then t.s ++ bangB else t.s⟩
def Tw.en (t : Tw) : En := ⟨(bFq t.s).1, (t.s.size : Nat), (t.bx : Int) + 1, (t.sl : Nat), (bFq t.s).2⟩
noncomputable def libP {w : World} (gs : List (Gw w)) : List (List Rk) := gs.map fun g => g.l.map Tw.rk
theorem libP_snoc {w : World} {gs : List (Gw w)} {i : Nat} {g : Gw w} (h : gs[i]? = some g) : libP (gs.take (i + 1)) = libP (gs.take i) ++ [g.l.map Tw.rk] := by unfold libP; rw [take_snocE h, List.map_append]; rfl
theorem rkC_whole (r : Rk) : ((rkC r).drop 0).take 37 = rkC r := by rw [List.drop_zero, List.take_of_length_le (by rw [rkC_len]; exact Nat.le_refl _)]
structure Lj2 where
  i : Nat
  oo : Option Addr
  oc : Nat
  ds : List (Drow Rk)
set_option maxHeartbeats 16000000 in
theorem library_sat {w0 : World} {W : World} {M : List Nat} {R : Hp} {w : World} (c : Nat → Int) (box man : Int) (go : Option Addr) (gn gc : Nat) (gs : List (Gw w0)) (pv : Value) (hgl : gs.length = min gn 1000) (pn : Nat) (ps : List ByteArray) (hli : Light gn gs pn ps)
    (hs : Sat W M (.rd go ((gwE w0).fl gs) :: .gen (rdsG (gwL gs)) :: R) w) :
    Calls Tryz.prog 12 #[.agg (caC c box man (.slice go gn gc) pv).toArray] w fun e w' => ∃ lo lc ds, e = .returned (.agg (lbC lo ds.length lc).toArray) ∧ ds.map (·.l) = libP gs ∧ Sat W M (.gen (rdsG (grL lo ds)) :: .rd go ((gwE w0).fl gs) :: .gen (rdsG (gwL gs)) :: R) w' := by
  have hgn := hli.gn
  refine sx_fn (S := SX) (N := 73) Tryz.func12 rfl rfl rfl hs ?_
  ((try refine sU ?_);repeat(refine sN fun _=>?_;try refine sU ?_))
  refine SxCode.wk (Weak.nil 92 1) ?_
  refine SxCode.wk (Weak.rds0 _) ?_
  rename_i b1 b2 b3
  refine SxCode.loop (σ := Lj2) [4] [10, 11, 12, 13, 14, 5, 6, 17, 18, 19, 20, 21, 22, 23, 24, 27, 28, 29, 30, 31, 32, 33, 34, 7, 35, 36, 37, 38, 39, 40, 41, 42, 43, 44, 45, 46, 47, 48, 8, 49, 50, 51, 52, 53, 54, 55, 9, 56, 57, 58, 59, 60, 61, 62, 63, 64, 65, 25, 26, 66, 67, 68, 69, 70, 71, 15, 16, 4] (fun x => [.int .i64 (x.i : Nat)]) (fun x => .gen (rdsG (x.ds.map fun d => (d.ao, rkE.fl d.l))) :: .row x.oo x.i x.oc 92 1 ((dvE (α := Rk)).fl x.ds) :: .blk b3 36 (lbC x.oo x.i x.oc) :: .blk b2 36 (lbC none 0 0) :: .blk b1 28 (caC c box man (.slice go gn gc) pv) :: .rd go ((gwE w0).fl gs) :: .gen (rdsG (gwL gs)) :: R)
    (fun x => x.i ≤ gn ∧ x.ds.length = x.i ∧ x.ds.map (·.l) = libP (gs.take x.i)) (fun x => gn - x.i) ⟨0, none, 0, []⟩ ([0, 1, 2, 3, 4, 5, 6] ++ tailIx 7 R.length) rfl rfl (pickH_append (A := [_, _, _, _, _, _, _]) rfl (pickH_tail (L := R) 7 rfl rfl)) (nodup_tail 7 _ rfl rfl) ⟨Nat.zero_le _, rfl, rfl⟩ ?_
  rintro ⟨i, oo, oc, ds⟩ ⟨hi, hdl, hdm⟩
  dsimp only at hi hdl hdm ⊢
  by_cases hlt : i < gn
  · obtain ⟨G, hG⟩ : ∃ G, gs[i]? = some G := ⟨gs[i]'(by omega), by simp [show i < gs.length by omega]⟩
    have hGm := List.mem_of_getElem? hG
    have hGl := G.l_spec.1
    obtain ⟨hG1, hG2⟩ := hli.g G hGm
    have hi1 : i * 1 < ((gwE w0).fl gs).length := by rw [gwE_len]; omega
    have hlib := libP_snoc hG
    ((try refine sU ?_);repeat(refine sN fun _=>?_;try refine sU ?_))
    refine SxCode.wk (Weak.nil 94 37) ?_
    refine SxCode.loop (σ := Nat × Option Addr × Nat) [6, 5] [17, 18, 19, 20, 21, 22, 23, 24, 27, 28, 29, 30, 31, 32, 33, 34, 7, 35, 36, 37, 38, 39, 40, 41, 42, 43, 44, 45, 46, 47, 48, 8, 49, 50, 51, 52, 53, 54, 55, 9, 56, 57, 58, 59, 60, 61, 62, 63, 64, 65, 5, 25, 26, 6] (fun x => [.int .i64 (x.1 : Nat), .slice x.2.1 x.1 x.2.2]) (fun x => .row x.2.1 x.1 x.2.2 94 37 (rkE.fl ((G.l.take x.1).map Tw.rk)) :: .gen (rdsG (ds.map fun d => (d.ao, rkE.fl d.l))) :: .row oo i oc 92 1 ((dvE (α := Rk)).fl ds) :: .blk b3 36 (lbC oo i oc) :: .blk b2 36 (lbC none 0 0) :: .blk b1 28 (caC c box man (.slice go gn gc) pv) :: .rd go ((gwE w0).fl gs) :: .gen (rdsG (gwL gs)) :: R)
      (fun x => x.1 ≤ G.1.n) (fun x => G.1.n - x.1) (0, none, 0) ([0, 1, 2, 3, 4, 5, 6, 7] ++ tailIx 8 R.length) rfl rfl (pickH_append (A := [_, _, _, _, _, _, _, _]) rfl (pickH_tail (L := R) 8 rfl rfl)) (nodup_tail 8 _ rfl rfl) (Nat.zero_le _) ?_
    rintro ⟨k, xo, xc⟩ hk
    dsimp only at hk ⊢
    by_cases hkl : k < G.1.n
    · obtain ⟨t, ht⟩ : ∃ t, G.l[k]? = some t := ⟨G.l[k]'(by omega), by simp [show k < G.l.length by omega]⟩
      have hts := hG2 t (List.mem_of_getElem? ht)
      have hsn : (G.l.take (k + 1)).map Tw.rk = (G.l.take k).map Tw.rk ++ [t.rk] := by rw [take_snocE ht, List.map_append]; rfl
      have hb := t.h1
      have hsl := t.h2
      have htw : ((twE.fl G.l).drop (k * 5)).take 5 = twC t := twE.fl_at ht
      ((try refine sU ?_);repeat(refine sN fun _=>?_;try refine sU ?_))
      refine SxIA.rd 6 _ rfl i rfl hlt hi1 fun g off ha => ?_
      ((try refine sU ?_);repeat(refine sN fun _=>?_;try refine sU ?_))
      refine SxLd.rd 6 rfl ha rfl (j := i * 1) (gwE_at hG) ?_
      ((try refine sU ?_);repeat(refine sN fun _=>?_;try refine sU ?_))
      refine SxIA.rd 6 _ rfl i rfl hlt hi1 fun g off ha => ?_
      ((try refine sU ?_);repeat(refine sN fun _=>?_;try refine sU ?_))
      refine SxLd.rd 6 rfl ha rfl (j := i * 1) (gwE_at hG) ?_
      ((try refine sU ?_);repeat(refine sN fun _=>?_;try refine sU ?_))
      refine SxIA.of 7 rfl (gwL_mem hGm) k rfl hkl (by rw [twE_len]; omega) fun g off ha => ?_
      ((try refine sU ?_);repeat(refine sN fun _=>?_;try refine sU ?_))
      refine SxLdN.of 7 rfl (gwL_mem hGm) ha rfl (vs := twC t) rfl htw ?_
      ((try refine sU ?_);repeat(refine sN fun _=>?_;try refine sU ?_))
      rename_i bt
      refine SxCode.draw rfl [.blk bt 90 (twC t)] [] [0] rfl rfl ?_
      ((try refine sU ?_);repeat(refine sN fun _=>?_;try refine sU ?_))
      refine SxRng.u32 (by omega) (by omega) ?_
      ((try refine sU ?_);repeat(refine sN fun _=>?_;try refine sU ?_))
      refine SxRng.u32 (by omega) (by omega) ?_
      ((try refine sU ?_);repeat(refine sN fun _=>?_;try refine sU ?_))
      refine any_two rfl rfl rfl rfl rfl rfl rfl ?_ ?_
      case' refine_1 =>
        refine SxCall.rsumF t.s (by omega) ?_
        ((try refine sU ?_);repeat(refine sN fun _=>?_;try refine sU ?_))
      case' refine_2 =>
        ((try refine sU ?_);repeat(refine sN fun _=>?_;try refine sU ?_))
        refine SxCall.rsumF t.s (by omega) ?_
        ((try refine sU ?_);repeat(refine sN fun _=>?_;try refine sU ?_))
      all_goals
        refine SxFill.first rfl (fqC_len _) rfl ?_
        refine SxFill.tail (fun i => match i with | 1 => some (0, 1) | 2 => some (1, 1) | 3 => some (2, 1) | _ => none) (fqC_len _) (by
          intro y hy
          simp only [List.mem_cons, List.not_mem_nil, or_false] at hy
          rcases hy with rfl | rfl | rfl <;> exact ⟨_, _, rfl, rfl⟩) ?_
        refine SxFill.ok rfl rfl ?_
        ((try refine sU ?_);repeat(refine sN fun _=>?_;try refine sU ?_))
        refine SxSt.elem enE (x := t.en) 0 rfl rfl ?_
        ((try refine sU ?_);repeat(refine sN fun _=>?_;try refine sU ?_))
        rename_i be
        refine SxLdN.blk 0 rfl (vs := enC t.en) (enC_len _) (enC_whole _) ?_
        ((try refine sU ?_);repeat(refine sN fun _=>?_;try refine sU ?_))
        refine SxFill.first rfl (enC_len _) rfl ?_
        refine SxFill.tail (fun i => match i with | 1 => some (0, 1) | 2 => some (1, 1) | _ => none) (enC_len _) (by
          intro y hy
          simp only [List.mem_cons, List.not_mem_nil, or_false] at hy
          rcases hy with rfl | rfl <;> exact ⟨_, _, rfl, rfl⟩) ?_
        refine SxFill.ok rfl rfl ?_
        ((try refine sU ?_);repeat(refine sN fun _=>?_;try refine sU ?_))
        refine SxSt.elem rkE (x := ⟨t.en, !t.none_, t.s⟩) 0 rfl rfl ?_
        ((try refine sU ?_);repeat(refine sN fun _=>?_;try refine sU ?_))
        rename_i br
        refine SxIf.mk (fun ho => ?_) (fun ho => ?_)
        case' refine_1 =>
          have hrk : (⟨t.en, !t.none_, t.s ++ bangB⟩ : Rk) = t.rk := by unfold Tw.rk; rw [if_pos ho]; rfl
          ((try refine sU ?_);repeat(refine sN fun _=>?_;try refine sU ?_))
          refine SxLe.mk (by have h1 : (⟨#[33]⟩ : ByteArray).size = 1 := rfl; omega) ?_
          ((try refine sU ?_);repeat(refine sN fun _=>?_;try refine sU ?_))
          refine SxSt.blk 0 rfl (by show Nat.ble (36 + 1) (rkC _).length = true; rw [rkC_len]; rfl) rfl (cs' := rkC ⟨t.en, !t.none_, t.s ++ bangB⟩) (by show splice (35 + 1) _ (enC _ ++ _) = _; rw [splice_app (enC_len _)]; rfl) ?_
          rw [hrk]
        case' refine_2 =>
          have hrk : (⟨t.en, !t.none_, t.s⟩ : Rk) = t.rk := by unfold Tw.rk; rw [if_neg (by rw [ho]; simp)]; rfl
          rw [hrk]
        all_goals
          ((try refine sU ?_);repeat(refine sN fun _=>?_;try refine sU ?_))
          refine SxLdN.blk 0 rfl (vs := rkC t.rk) (rkC_len _) (rkC_whole _) ?_
          ((try refine sU ?_);repeat(refine sN fun _=>?_;try refine sU ?_))
          refine SxFill.one rfl (rkC_len _) ?_
          ((try refine sU ?_);repeat(refine sN fun _=>?_;try refine sU ?_))
          refine SxApp.mk 4 rfl 0 (.inr (.inr (.inr ⟨by decide, _, rfl⟩))) (vs := rkC t.rk) (m := 1) (by rw [rkC_len]) (rkC_one _) (by unfold maxLen; omega) (by omega) (cs' := rkE.fl ((G.l.take (k + 1)).map Tw.rk)) (by rw [hsn, rkE.fl_append, rkE.fl_one]; rfl) fun xo' xc' => ?_
          ((try refine sU ?_);repeat(refine sN fun _=>?_;try refine sU ?_))
          exact SxRound.mk (k + 1, xo', xc') ([4, 5, 6, 7, 8, 9, 10, 11] ++ tailIx 12 R.length) rfl (pickH_append (A := [_, _, _, _, _, _, _, _]) rfl (pickH_tail (L := R) 12 rfl rfl)) (nodup_tail 12 _ rfl rfl) hkl (by dsimp only; omega)
    · obtain rfl : k = G.1.n := by omega
      ((try refine sU ?_);repeat(refine sN fun _=>?_;try refine sU ?_))
      refine SxIA.rd 6 _ rfl i rfl hlt hi1 fun g off ha => ?_
      ((try refine sU ?_);repeat(refine sN fun _=>?_;try refine sU ?_))
      refine SxLd.rd 6 rfl ha rfl (j := i * 1) (gwE_at hG) ?_
      rw [List.take_of_length_le (by omega)]
      ((try refine sU ?_);repeat(refine sN fun _=>?_;try refine sU ?_))
      rename_i bs1
      refine SxApp.mk 3 rfl 0 (.inr (.inr (.inr ⟨by decide, _, rfl⟩))) (vs := [.slice xo G.1.n xc]) (m := 1) rfl rfl (by unfold maxLen; omega) (by omega) (cs' := (dvE (α := Rk)).fl (ds ++ [⟨xo, xc, G.l.map Tw.rk⟩])) (by rw [(dvE (α := Rk)).fl_append]; show _ = _ ++ [Value.slice xo (G.l.map Tw.rk).length xc]; rw [List.length_map, hGl, Nat.min_eq_left (by omega)]) fun oo' oc' => ?_
      ((try refine sU ?_);repeat(refine sN fun _=>?_;try refine sU ?_))
      refine SxRound.via ⟨i + 1, oo', oc', ds ++ [⟨xo, xc, G.l.map Tw.rk⟩]⟩ rfl (Weak.trans (Weak.join (L' := (ds ++ [(⟨xo, xc, G.l.map Tw.rk⟩ : Drow Rk)]).map fun d => (d.ao, rkE.fl d.l)) (by rw [rkE_len, List.length_map]; unfold maxLen; omega) 1 2 (by decide) rfl rfl (fun y hy => by
        rw [List.map_append] at hy
        rcases List.mem_append.1 hy with h | h
        · exact .inl h
        · exact .inr (List.mem_singleton.1 h))) (Weak.pick (ks := [2, 3, 4, 5, 6, 7, 8] ++ tailIx 9 R.length) (pickH_append (A := [_, _, _, _, _, _, _]) rfl (pickH_tail (L := R) 9 rfl rfl)) (nodup_tail 9 _ rfl rfl))) ⟨hlt, by dsimp only; rw [List.length_append, hdl]; rfl, by dsimp only; rw [List.map_append, hdm, hlib]; rfl⟩ (by dsimp only; omega)
  · obtain rfl : i = gn := by omega
    rw [List.take_of_length_le (by omega)] at hdm
    ((try refine sU ?_);repeat(refine sN fun _=>?_;try refine sU ?_))
    refine SxDone.mk fun w' hs => ⟨oo, oc, ds, ?_, hdm, ?_⟩
    · rw [hdl]; rfl
    · have h1 := Weak.join (L' := grL oo ds) (by rw [dvE_len]; unfold maxLen; omega) 1 0 (by decide) rfl rfl (fun x hx => by
        rcases List.mem_cons.1 hx with h | h
        · exact .inr h
        · exact .inl h) _ _ _ hs
      exact h1.pick (ks := [0, 5, 6] ++ tailIx 7 R.length) (pickH_append (A := [_, _, _]) rfl (pickH_tail (L := R) 7 rfl rfl)) (nodup_tail 7 _ rfl rfl)
end Go.Proofs.YtlmefcepdadfjaaGreat
/- Layer 23: a stream of nothing; how long it is; the page's example. -/
namespace Go.Proofs.YtlmefcepdadfjaaGreat
open Go.RowKit

theorem Weak.rdsNil {H : Hp} (L : RdL) (h : ∀ x ∈ L, x.2 = []) : Weak H (.gen (rdsG L) :: H) := fun _ _ w hs =>
  hs.cons ⟨rfl, rfl, rfl, Nat.le_refl _, fun _ _ _ => rfl⟩ (e := .gen (rdsG L)) (fun x hx => by rw [h x hx]; exact Rd_nil _ _) (fun g hg => by
    obtain ⟨x, hx, hu⟩ := hg
    rw [h x hx] at hu
    exact absurd rfl hu.1)
def sr0 (box man : Int) (c : Nat → Int) (L : Lb) : Sr := ⟨box, man, [], none, 0, [], none, 0, 0, 0, c, L, ⟨#[]⟩, [], none, 0, none, 0, 0, 0, 0⟩
theorem sr0_rds (box man : Int) (c : Nat → Int) (L : Lb) : ∀ x ∈ (sr0 box man c L).rds, x.2 = [] := by
  intro x hx
  simp only [sr0, Sr.rds, maL, bxL, List.map_nil, List.append_nil, List.mem_cons, List.not_mem_nil, or_false] at hx
  rcases hx with rfl | rfl | rfl | rfl <;> rfl
theorem good_no : Good .no := ⟨trivial, fun _ => by show 0 ≤ 10000; omega⟩
theorem sr0_held (box man : Int) (c : Nat → Int) (hc : conC c = true) (L : Lb) : (sr0 box man c L).held box man c L ⟨#[]⟩ := by
  have hmay := (conC_may hc).1
  refine ⟨rfl, rfl, rfl, rfl, ⟨[], .nil, rfl⟩, ?_, ?_, ?_, rfl, rfl, rfl⟩
  · show cutC c ⟨#[]⟩ = 0
    rw [cutC_cf hmay]
    exact cutN_nil (cf c) (conf4_of hmay).1
  · exact W_0
  · exact W_0
theorem new_sat {W : World} {M : List Nat} {H : Hp} {w : World} (hs : Sat W M H w) (c : Nat → Int) (box man : Int) (hok : conC c = true) (hb : box ≠ 0) (hm : man ≠ 0) :
    Calls Tryz.prog 14 #[confA c, .int .u32 box, .int .u32 man, .nilFunc, .nilFunc] w fun e w' => ∃ g, e = .returned (.tuple #[.pointer (some ⟨g, 0, none⟩), .int .i64 0]) ∧ Sat W M (.blk g 101 (sr0 box man c .no).cells :: .gen (rdsG (sr0 box man c .no).rds) :: .gen (rdsG Lb.no.rds) :: H) w' := by
  refine (SNew_nil_sat hs c box man hok hb hm).mono ?_
  rintro e w' ⟨g, rfl, hs'⟩
  refine ⟨g, rfl, ?_⟩
  have h1 := Weak.rds0 _ _ _ _ hs'
  have h2 := Weak.rdsNil _ (sr0_rds box man c .no) _ _ _ h1
  exact h2.pick (ks := [2, 0, 1] ++ tailIx 3 H.length) (pickH_append (A := [_, _, _]) rfl (pickH_tail (L := H) 3 rfl rfl)) (nodup_tail 3 _ rfl rfl)
section
variable {box man : Int} {c : Nat → Int} {L : Lb} {A : ByteArray} {σ : Sr} (w : World) (g : Nat)
theorem len_held (hσ : σ.held box man c L A) (hb : Blk w g 101 σ.cells) : Calls Tryz.prog 23 #[.pointer (some ⟨g, 0, none⟩)] w fun e w' => e = .returned (.int .i64 (A.size : Nat)) ∧ Below w.heap.size w w' := by
  have h := SLen_any g σ.box σ.man σ.last σ.fresh σ.n σ.mo σ.bo σ.ms.length σ.mc σ.bs.length σ.bc σ.c σ.L.kn σ.L.bt (.slice σ.co σ.ch.length σ.cc) (.slice σ.fo σ.ch.length σ.fc) (.complex .f64 σ.wa σ.wb) σ.left w hb
  rw [hσ.hn] at h
  exact h
end
theorem over_small {box man : Int} {c : Nat → Int} {L : Lb} {A : ByteArray} {σ : Sr} (hc : conC c = true) (_hg : Good L) (hσ : σ.held box man c L A) (hA : A.size ≤ 1000) (hb : box ≤ 4294960000) (hm : man ≤ 4294960000) : overC box man σ.ms.length σ.bs.length = false := by
  obtain ⟨cs, h1, h2⟩ := hσ.hat
  obtain ⟨a1, _, a3, _⟩ := laidP_much (box := box) (man := man) (G := L.G) (conC_may hc).2 cs
  rw [← h2] at a1 a3
  dsimp only at a1 a3
  rw [List.length_map] at a1 a3
  have h3 := h1.len
  unfold overC
  rw [decide_eq_false (by omega), decide_eq_false (by omega), decide_eq_false (by omega)]; rfl
def cEx (i : Nat) : Int := ([4, 8, 2, 1, 1, 2, 1, 0, 0, 0, 0, 3, 20] : List Int).getD i 0
theorem cEx_con : conC cEx = true := by decide
def abc : ByteArray := ⟨#[97, 98, 99]⟩
theorem abc_whole {CS : List ByteArray} (h : Whole (cf cEx) abc CS) : CS = [abc] := by
  have h0 : cutN (cf cEx) abc.data.toList = 0 := by decide +kernel
  exact h.det ⟨[], abc, .nil, h0, rfl⟩
theorem abc_made : madeP cEx 7 9 [] [abc] = ⟨[(9, [mkEn abc (7, 0)])], [(7, [abc])]⟩ := by
  have h1 : segN cEx [bFq abc] = 1 := by
    unfold segN
    rw [if_pos (conC_may cEx_con).2]
    refine firstN_some (by simp) ?_ (fun i hi => absurd hi (Nat.not_lt_zero _))
    unfold endC
    rw [decide_eq_true_iff]
    exact .inr ⟨by decide, by show _ % (1 : Int) = 0; omega⟩
  have h2 : laidP cEx 7 9 [] [abc] = (layP cEx 7 9 [] ⟨[], []⟩ [abc], []) := by
    show feedP cEx 7 9 [] ls0 abc = _
    unfold feedP ls0
    rw [List.nil_append, show [abc].map bFq = [bFq abc] from rfl, h1]; rfl
  unfold madeP lastP
  rw [h2, if_pos rfl]
  rfl
end Go.Proofs.YtlmefcepdadfjaaGreat
/- Layer 23: the page's example; StreamChecks. -/
namespace Go.Proofs.YtlmefcepdadfjaaGreat
open Go.RowKit

theorem map_one {α β : Type} {f : α → β} {l : List α} {y : β} (h : l.map f = [y]) : ∃ x, l = [x] ∧ f x = y := by
  match l, h with
  | [x], h => exact ⟨x, rfl, by simpa using h⟩
theorem e0ab : ((⟨#[]⟩ : ByteArray) ++ ⟨#[97, 98]⟩) = ⟨#[97, 98]⟩ := ba_extS (by rw [ba_appendS]; rfl)
theorem eabc : ((⟨#[97, 98]⟩ : ByteArray) ++ ⟨#[99]⟩) = abc := ba_extS (by rw [ba_appendS]; rfl)
theorem eabcd : (abc ++ ⟨#[100]⟩).size = 4 := by simp [abc, ByteArray.size]
set_option maxHeartbeats 16000000 in
theorem st_awake (w : World) : Calls Tryz.prog 11 #[] w fun e w' => e = .returned (.bool true) ∧ Below w.heap.size w w' := by
  refine sx_fn (S := SX) (M := []) (N := 111) (H0 := []) Tryz.func11 rfl rfl rfl (Sat.nil _ _) ?_
  ((try refine sU ?_);repeat(refine sN fun _=>?_;try refine sU ?_))
  refine SxCall.mk fun w1 hs1 => (new_sat hs1 cEx 7 9 cEx_con (by decide) (by decide)).mono ?_
  rintro e w2 ⟨g, rfl, hs2⟩
  refine ⟨_, _, rfl, hs2, ?_⟩
  ((try refine sU ?_);repeat(refine sN fun _=>?_;try refine sU ?_))
  refine SxRun.pEqNil Tryz.underlying44 ?_
  ((try refine sU ?_);repeat(refine sN fun _=>?_;try refine sU ?_))
  refine SxCall.mk fun w3 hs3 => (write_sat 7 9 (by omega) (by omega) (by omega) (by omega) cEx cEx_con .no good_no ⟨#[]⟩ ⟨#[97, 98]⟩ _ (sr0_held 7 9 cEx cEx_con .no) (by decide) g hs3).mono ?_
  rintro e w4 ⟨σ1, hh1, hr1⟩
  rw [e0ab] at hh1
  have hov := over_small cEx_con good_no hh1 (by decide) (by omega) (by omega)
  rcases hr1 with ⟨ho, _⟩ | ⟨_, rfl, hs4⟩
  · rw [hov] at ho; cases ho
  refine ⟨_, _, rfl, hs4, ?_⟩
  ((try refine sU ?_);repeat(refine sN fun _=>?_;try refine sU ?_))
  refine SxCall.mk fun w3 hs3 => (write_sat 7 9 (by omega) (by omega) (by omega) (by omega) cEx cEx_con .no good_no ⟨#[97, 98]⟩ ⟨#[99]⟩ _ hh1 (by decide) g hs3).mono ?_
  rintro e w4 ⟨σ2, hh2, hr2⟩
  rw [eabc] at hh2
  have hov2 := over_small cEx_con good_no hh2 (by decide) (by omega) (by omega)
  rcases hr2 with ⟨ho, _⟩ | ⟨_, rfl, hs4⟩
  · rw [hov2] at ho; cases ho
  refine ⟨_, _, rfl, hs4, ?_⟩
  ((try refine sU ?_);repeat(refine sN fun _=>?_;try refine sU ?_))
  refine SxCall.quietS (v := .int .i64 3) (fun w3 hs3 => len_held w3 g hh2 (hs3.blk 0 rfl)) ?_
  ((try refine sU ?_);repeat(refine sN fun _=>?_;try refine sU ?_))
  refine SxCall.mk fun w3 hs3 => (end_sat 7 9 (by omega) (by omega) (by omega) (by omega) cEx cEx_con .no good_no abc σ2 hh2 (by decide) g hs3).mono ?_
  rintro e w5 ⟨CS, hw, hr⟩
  obtain rfl := abc_whole hw
  have hmd : madeP cEx 7 9 Lb.no.G [abc] = ⟨[(9, [mkEn abc (7, 0)])], [(7, [abc])]⟩ := abc_made
  rw [hmd] at hr
  rcases hr with ⟨ho, _⟩ | ⟨_, ms, mo, mc, bs, bo, bc, rfl, hms, hbs, hs5⟩
  · exact absurd ho (by decide)
  obtain ⟨m, rfl, hm⟩ := map_one hms
  obtain ⟨b, rfl, hb⟩ := map_one hbs
  obtain ⟨mid, ⟨mao, mcap, ml⟩⟩ := m
  obtain ⟨bid, ⟨bao, bcap, bl⟩⟩ := b
  simp only [Mr.mn, Prod.mk.injEq] at hm
  simp only [Nb.bx, Prod.mk.injEq] at hb
  obtain ⟨rfl, rfl⟩ := hm
  obtain ⟨rfl, rfl⟩ := hb
  refine ⟨_, _, rfl, hs5, ?_⟩
  have ha3 : abc.size = 3 := rfl
  have hre : reA abc = -2 := by decide
  have him : imA abc = 98 := by decide
  obtain ⟨LL, hLL⟩ : ∃ LL, LL = mdL [((9, ⟨mao, mcap, [mkEn abc (7, 0)]⟩) : Mr)] mo [((7, ⟨bao, bcap, [abc]⟩) : Nb)] bo := ⟨_, rfl⟩
  have m0 : (mo, mbE.fl ([((9, ⟨mao, mcap, [mkEn abc (7, 0)]⟩) : Mr)].map Mr.mb)) ∈ LL := by rw [hLL]; simp [mdL]
  have m1 : (mao, enE.fl [mkEn abc (7, 0)]) ∈ LL := by rw [hLL]; simp [mdL, maL]
  have m2 : (bo, mbE.fl ([((7, ⟨bao, bcap, [abc]⟩) : Nb)].map Nb.mb)) ∈ LL := by rw [hLL]; simp [mdL]
  have hen := enE_cell1 (l := [mkEn abc (7, 0)]) (k := 0) rfl (enC_tail (mkEn abc (7, 0)) 0 _ rfl)
  rw [← hLL]
  ((try refine sU ?_);repeat(refine sN fun _=>?_;try refine sU ?_))
  refine SxIA.of 1 rfl m0 0 rfl (by show (0 : Nat) < 1; omega) (by show (0 : Nat) < 2; omega) fun g1 o1 a1 => ?_
  ((try refine sU ?_);repeat(refine sN fun _=>?_;try refine sU ?_))
  refine SxLd.of 1 rfl m0 a1 (by omega) (j := 0) (v := .int .u32 9) rfl ?_
  ((try refine sU ?_);repeat(refine sN fun _=>?_;try refine sU ?_))
  refine SxIA.of 1 rfl m0 0 rfl (by show (0 : Nat) < 1; omega) (by show (0 : Nat) < 2; omega) fun g1 o1 a1 => ?_
  ((try refine sU ?_);repeat(refine sN fun _=>?_;try refine sU ?_))
  refine SxLd.of 1 rfl m0 a1 (by omega) (j := 1) (v := .slice mao 1 mcap) rfl ?_
  ((try refine sU ?_);repeat(refine sN fun _=>?_;try refine sU ?_))
  refine SxIA.of 1 rfl m0 0 rfl (by show (0 : Nat) < 1; omega) (by show (0 : Nat) < 2; omega) fun g1 o1 a1 => ?_
  ((try refine sU ?_);repeat(refine sN fun _=>?_;try refine sU ?_))
  refine SxLd.of 1 rfl m0 a1 (by omega) (j := 1) (v := .slice mao 1 mcap) rfl ?_
  ((try refine sU ?_);repeat(refine sN fun _=>?_;try refine sU ?_))
  refine SxIA.of 1 rfl m1 0 rfl (by show (0 : Nat) < 1; omega) (by rw [enE_len1]; decide) fun g1 o1 a1 => ?_
  ((try refine sU ?_);repeat(refine sN fun _=>?_;try refine sU ?_))
  refine SxLd.of 1 rfl m1 a1 (by omega) (j := 0 * 35 + 32) hen ?_
  ((try refine sU ?_);repeat(refine sN fun _=>?_;try refine sU ?_))
  refine SxIA.of 1 rfl m2 0 rfl (by show (0 : Nat) < 1; omega) (by show (0 : Nat) < 2; omega) fun g1 o1 a1 => ?_
  ((try refine sU ?_);repeat(refine sN fun _=>?_;try refine sU ?_))
  refine SxLd.of 1 rfl m2 a1 (by omega) (j := 0) (v := .int .u32 7) rfl ?_
  ((try refine sU ?_);repeat(refine sN fun _=>?_;try refine sU ?_))
  refine SxCall.mk fun w3 hs3 => (write_sat 7 9 (by omega) (by omega) (by omega) (by omega) cEx cEx_con .no good_no abc ⟨#[100]⟩ _ hh2 (by decide) g (hs3.pick (ks := [2, 3, 4, 0, 1]) rfl rfl)).mono ?_
  rintro e w4 ⟨σ3, hh3, hr3⟩
  have hov3 := over_small cEx_con good_no hh3 (by rw [eabcd]; omega) (by omega) (by omega)
  rcases hr3 with ⟨ho, _⟩ | ⟨_, rfl, hs4⟩
  · rw [hov3] at ho; cases ho
  refine ⟨_, _, rfl, hs4, ?_⟩
  ((try refine sU ?_);repeat(refine sN fun _=>?_;try refine sU ?_))
  refine SxCall.quietS (v := .int .i64 4) (fun w3 hs3 => by
    have h := len_held w3 g hh3 (hs3.blk 0 rfl)
    rw [eabcd] at h
    exact h) ?_
  ((try refine sU ?_);repeat(refine sN fun _=>?_;try refine sU ?_))
  exact SxDone.mk fun w' hs => ⟨rfl, hs.touch.below⟩
end Go.Proofs.YtlmefcepdadfjaaGreat
/- Layer 23: a stream with a library; who is told. -/
namespace Go.Proofs.YtlmefcepdadfjaaGreat
open Go.RowKit

theorem Weak.lib {H : Hp} {gl : Nat} {go : Option Addr} {gc : Nat} {gs : List (Drow Rk)} (p q : Nat) (hpq : p ≠ q) (hp : H[p]? = some (.blk gl 36 (lbC go gs.length gc))) (hq : H[q]? = some (.gen (rdsG (grL go gs)))) : Weak H ((H.set p (.row none 0 0 36 4 [])).set q (.gen (rdsG (Lb.lib gl go gc gs).rds))) := by
  refine Weak.merge p q hpq hp hq _ _ (fun W M w hs x hx => ?_) fun g hg => ?_
  · rcases List.mem_cons.1 hx with rfl | h
    · exact Rd.of_blk (hs.blk p hp) (by show (4 : Nat) ≤ maxLen; unfold maxLen; omega)
    · exact hs.rds1 q hq x h
  · obtain ⟨x, hx, hu⟩ := hg
    rcases List.mem_cons.1 hx with rfl | h
    · right
      have h2 := hu.2
      simp only [Option.map_some, Option.some.injEq] at h2
      subst h2; rfl
    · exact .inl ⟨x, h, hu⟩
set_option maxHeartbeats 4000000 in
theorem toldFn_sat {W : World} {M : List Nat} {R : Hp} {w : World} (go : Option Addr) (gc : Nat) (gs : List (Drow Rk)) (hs : Sat W M (.gen (rdsG (grL go gs)) :: R) w) :
    Calls Tryz.prog 13 #[.agg (lbC go gs.length gc).toArray] w fun e w' => ∃ gl, e = .returned (.tuple #[(Lb.lib gl go gc gs).kn, (Lb.lib gl go gc gs).bt]) ∧ Sat W M (.gen (rdsG (Lb.lib gl go gc gs).rds) :: R) w' := by
  refine sx_fn (S := SX) (N := 6) Tryz.func13 rfl rfl rfl hs ?_
  ((try refine sU ?_);repeat(refine sN fun _=>?_;try refine sU ?_))
  refine SxDone.mk fun w' hs => ⟨_, rfl, ?_⟩
  have h1 := Weak.lib 0 1 (by decide) rfl rfl _ _ _ hs
  exact h1.pick (ks := [1] ++ tailIx 2 R.length) (pickH_append (A := [_]) rfl (pickH_tail (L := R) 2 rfl rfl)) (nodup_tail 2 _ rfl rfl)
set_option maxHeartbeats 4000000 in
theorem new_lib_sat {W : World} {M : List Nat} {H : Hp} {w : World} (hs : Sat W M H w) (c : Nat → Int) (box man : Int) (L : Lb) (hok : conC c = true) (hb : box ≠ 0) (hm : man ≠ 0) :
    Calls Tryz.prog 14 #[confA c, .int .u32 box, .int .u32 man, L.kn, L.bt] w fun e w' => ∃ g, e = .returned (.tuple #[.pointer (some ⟨g, 0, none⟩), .int .i64 0]) ∧ Sat W M (.blk g 101 (sr0 box man c L).cells :: .gen (rdsG (sr0 box man c L).rds) :: H) w' := by
  refine sx_fn (S := SX) (N := 35) Tryz.func14 rfl rfl rfl hs ?_
  ((try refine sU ?_);repeat(refine sN fun _=>?_;try refine sU ?_))
  refine SxCall.quiet (v := .int .i64 0) (fun w => by have := SCheck_any c w; rw [hok] at this; exact this) ?_
  ((try refine sU ?_);repeat(refine sN fun _=>?_;try refine sU ?_))
  refine SxRun.fEqNil Tryz.underlying39 ?_
  ((try refine sU ?_);repeat(refine sN fun _=>?_;try refine sU ?_))
  refine SxRun.fEqNil Tryz.underlying41 ?_
  ((try refine sU ?_);repeat(refine sN fun _=>?_;try refine sU ?_))
  refine SxDone.mk fun w' hs => ⟨_, rfl, ?_⟩
  have h2 := Weak.rdsNil _ (sr0_rds box man c L) _ _ _ hs.drop1
  exact h2.pick (ks := [1, 0] ++ tailIx 2 H.length) (pickH_append (A := [_, _]) rfl (pickH_tail (L := H) 2 rfl rfl)) (nodup_tail 2 _ rfl rfl)
end Go.Proofs.YtlmefcepdadfjaaGreat
/- Layer 23: a case as it came in; what document and program have made of one text is one. -/
namespace Go.Proofs.YtlmefcepdadfjaaGreat
open Go.RowKit

theorem open_case {w : World} {cs : List Value} (h : FitR Tryz.prog w 4 [.int .i64, .int .i64, .int .i64, .int .i64, .int .i64, .int .i64, .int .i64, .int .i64, .int .i64, .int .i64, .int .i64, .int .i64, .int .i64, .int .u32, .int .u32, .slice 88, .slice 9] cs) :
    ∃ (c : Nat → Int) (box man : Int) (go : Option Addr) (gn gc : Nat) (gs : List (Gw w)) (po : Option Addr) (pn pc : Nat) (ps : List ByteArray), cs = caC c box man (.slice go gn gc) (.slice po pn pc) ∧ (0 ≤ box ∧ box < 4294967296) ∧ (0 ≤ man ∧ man < 4294967296) ∧ gs.length = min gn 1000 ∧ ps.length = min pn 1000 ∧ Rd w go ((gwE w).fl gs) ∧ Rd w po (strE.fl ps) := by
  obtain ⟨hl, hf⟩ := h
  match cs, hl with
  | [c0, c1, c2, c3, c4, c5, c6, c7, c8, c9, c10, c11, c12, b, m, g, p], _ =>
    obtain ⟨c0, rfl, _⟩ := fitK_int (hf 0 _ _ rfl rfl)
    obtain ⟨c1, rfl, _⟩ := fitK_int (hf 1 _ _ rfl rfl)
    obtain ⟨c2, rfl, _⟩ := fitK_int (hf 2 _ _ rfl rfl)
    obtain ⟨c3, rfl, _⟩ := fitK_int (hf 3 _ _ rfl rfl)
    obtain ⟨c4, rfl, _⟩ := fitK_int (hf 4 _ _ rfl rfl)
    obtain ⟨c5, rfl, _⟩ := fitK_int (hf 5 _ _ rfl rfl)
    obtain ⟨c6, rfl, _⟩ := fitK_int (hf 6 _ _ rfl rfl)
    obtain ⟨c7, rfl, _⟩ := fitK_int (hf 7 _ _ rfl rfl)
    obtain ⟨c8, rfl, _⟩ := fitK_int (hf 8 _ _ rfl rfl)
    obtain ⟨c9, rfl, _⟩ := fitK_int (hf 9 _ _ rfl rfl)
    obtain ⟨c10, rfl, _⟩ := fitK_int (hf 10 _ _ rfl rfl)
    obtain ⟨c11, rfl, _⟩ := fitK_int (hf 11 _ _ rfl rfl)
    obtain ⟨c12, rfl, _⟩ := fitK_int (hf 12 _ _ rfl rfl)
    obtain ⟨b, rfl, hb⟩ := fitK_int (hf 13 _ _ rfl rfl)
    obtain ⟨m, rfl, hm⟩ := fitK_int (hf 14 _ _ rfl rfl)
    obtain ⟨go, gn, gc, rfl, _, gs, hg1, hg2⟩ := open_gws (hf 15 _ _ rfl rfl)
    obtain ⟨po, pn, pc, rfl, _, ps, hp1, hp2⟩ := open_strs (hf 16 _ _ rfl rfl)
    have hb2 := wf_bd hb
    have hm2 := wf_bd hm
    have k1 : IntKind.u32.min = 0 := rfl
    have k2 : IntKind.u32.max = 4294967295 := rfl
    exact ⟨fun i => ([c0, c1, c2, c3, c4, c5, c6, c7, c8, c9, c10, c11, c12] : List Int).getD i 0, b, m, go, gn, gc, gs, po, pn, pc, ps, rfl, ⟨by omega, by omega⟩, ⟨by omega, by omega⟩, hg1, hp1, hg2, hp2⟩
theorem gwL_rd {w : World} (gs : List (Gw w)) : RdAll w (gwL gs) := fun x hx => by
  obtain ⟨g, _, rfl⟩ := List.mem_map.1 hx
  exact g.l_spec.2
theorem libP_in {w : World} {gs : List (Gw w)} {g : List Rk} {r : Rk} (hg : g ∈ libP gs) (hr : r ∈ g) : r.en.bx < 257 := by
  unfold libP at hg
  obtain ⟨x, _, rfl⟩ := List.mem_map.1 hg
  obtain ⟨t, _, rfl⟩ := List.mem_map.1 hr
  have := t.h1
  show (t.bx : Int) + 1 < 257
  omega
theorem lib_good {w : World} {gn pn : Nat} {gs : List (Gw w)} {ps : List ByteArray} {ds : List (Drow Rk)} (hli : Light gn gs pn ps) (hgl : gs.length = min gn 1000) (hd : ds.map (·.l) = libP gs) (gl : Nat) (go : Option Addr) (gc : Nat) : Good (.lib gl go gc ds) ∧ ds.length ≤ 1000 ∧ (∀ d ∈ ds, d.l.length ≤ 1000) ∧ ∀ hk, (knownG (ds.map (·.l)) hk).length ≤ 10000 := by
  have h0 := hli.gn
  have e1 : ds.length = gs.length := by
    have := congrArg List.length hd
    rwa [List.length_map, libP, List.length_map] at this
  have e2 : ∀ g ∈ ds.map (·.l), g.length ≤ 10 := fun g hg => by
    rw [hd] at hg
    unfold libP at hg
    obtain ⟨x, hx, rfl⟩ := List.mem_map.1 hg
    rw [List.length_map, x.l_spec.1]
    have := (hli.g x hx).1
    omega
  have e3 : ∀ d ∈ ds, d.l.length ≤ 1000 := fun d hd' => by have := e2 d.l (List.mem_map.2 ⟨d, hd', rfl⟩); omega
  have e4 : ∀ hk, (knownG (ds.map (·.l)) hk).length ≤ 10000 := fun hk => by
    have := knownG_len hk (ds.map (·.l)) 10 e2
    rw [List.length_map] at this
    omega
  exact ⟨⟨⟨by omega, e3⟩, e4⟩, by omega, e3, e4⟩
end Go.Proofs.YtlmefcepdadfjaaGreat

/- Texts of this claim, one behind the other. -/
import Derived.Test.YtlmefcepdadfjaaGreatZShaB
import Derived.Test.YtlmefcepdadfjaaGreatZDrawC
import Derived.Deep.DeepCutAuto
/- The walks over the first state and the words of the rounds, the package's and the document's. -/
namespace Go.Proofs.YtlmefcepdadfjaaGreat
open Go.RowKit

def kL : List Nat := [0x428a2f98, 0x71374491, 0xb5c0fbcf, 0xe9b5dba5, 0x3956c25b, 0x59f111f1, 0x923f82a4, 0xab1c5ed5, 0xd807aa98, 0x12835b01, 0x243185be, 0x550c7dc3, 0x72be5d74, 0x80deb1fe, 0x9bdc06a7, 0xc19bf174, 0xe49b69c1, 0xefbe4786, 0x0fc19dc6, 0x240ca1cc, 0x2de92c6f, 0x4a7484aa, 0x5cb0a9dc, 0x76f988da, 0x983e5152, 0xa831c66d, 0xb00327c8, 0xbf597fc7, 0xc6e00bf3, 0xd5a79147, 0x06ca6351, 0x14292967, 0x27b70a85, 0x2e1b2138, 0x4d2c6dfc, 0x53380d13, 0x650a7354, 0x766a0abb, 0x81c2c92e, 0x92722c85, 0xa2bfe8a1, 0xa81a664b, 0xc24b8b70, 0xc76c51a3, 0xd192e819, 0xd6990624, 0xf40e3585, 0x106aa070, 0x19a4c116, 0x1e376c08, 0x2748774c, 0x34b0bcb5, 0x391c0cb3, 0x4ed8aa4a, 0x5b9cca4f, 0x682e6ff3, 0x748f82ee, 0x78a5636f, 0x84c87814, 0x8cc70208, 0x90befffa, 0xa4506ceb, 0xbef9a3f7, 0xc67178f2]
def hL : List Nat := [0x6a09e667, 0xbb67ae85, 0x3c6ef372, 0xa54ff53a, 0x510e527f, 0x9b05688c, 0x1f83d9ab, 0x5be0cd19]
def kF (j : Nat) : Nat := kL.getD j 0
def hF (j : Nat) : Nat := hL.getD j 0
theorem kF_lt (j : Nat) : kF j < 4294967296 := by
  unfold kF
  by_cases h : j < 64
  · have : ∀ j : Nat, j < 64 → kL.getD j 0 < 4294967296 := by decide +kernel
    exact this j h
  · rw [List.getD_eq_getElem?_getD, List.getElem?_eq_none (by simp [kL]; omega)]; decide
theorem hF_lt (j : Nat) : hF j < 4294967296 := by
  unfold hF
  by_cases h : j < 8
  · have : ∀ j : Nat, j < 8 → hL.getD j 0 < 4294967296 := by decide +kernel
    exact this j h
  · rw [List.getD_eq_getElem?_getD, List.getElem?_eq_none (by simp [hL]; omega)]; decide
def stV (s : Nat → Nat) (j : Nat) : Value := .int .u32 (s j : Nat)
theorem Start_any (w : World) : Calls Tryz.prog 137 #[] w fun e w' => e = .returned (.agg (tab 8 (stV hF)).toArray) ∧ Below w.heap.size w w' := by
  go_enter Tryz.func137, Tryz.ntmps137
  go_wp2_with (with_reducible refine wpList_alloc_blk (o := ⟨some 0, _, _, _, _, _⟩) rfl 206 rfl (.agg (tab 8 (stV fun _ => 0)).toArray) (by kernel_rfl) ?_)
  intro w1 hb1 hbel1 hsz1
  go_wp2_with (with_reducible refine wpList_store_tab (o := ⟨none, _, _, _, _, _⟩) rfl 206 _ _ rfl w.heap.size 206 8 (stV hF) (stV fun _ => 0) rfl rfl hb1 (by kernel_rfl) (fun _ => rfl) ?_)
  intro w2 hb2 ho2
  go_wp2_with fail
  refine bodyPost_ret (results_cell_tab rfl _ _ w.heap.size 206 8 (stV hF) _ rfl hb2 Tryz.underlying206 rfl (by kernel_rfl)) rfl ⟨rfl, ?_⟩
  exact hbel1.trans (ho2.below (by omega))
set_option maxHeartbeats 2000000 in
set_option maxRecDepth 100000 in
theorem roots_any (w : World) : Calls Tryz.prog 161 #[] w fun e w' => e = .returned (.agg (tab 64 (stV kF)).toArray) ∧ Below w.heap.size w w' := by
  go_enter Tryz.func161, Tryz.ntmps161
  go_wp2_with (with_reducible refine wpList_alloc_blk (o := ⟨some 0, _, _, _, _, _⟩) rfl 232 rfl (.agg (tab 64 (stV fun _ => 0)).toArray) (by kernel_rfl) ?_)
  intro w1 hb1 hbel1 hsz1
  go_wp2_with (with_reducible refine wpList_store_tab (o := ⟨none, _, _, _, _, _⟩) rfl 232 _ _ rfl w.heap.size 232 64 (stV kF) (stV fun _ => 0) rfl rfl hb1 (by kernel_rfl) (fun _ => rfl) ?_)
  intro w2 hb2 ho2
  go_wp2_with fail
  refine bodyPost_ret (results_cell_tab rfl _ _ w.heap.size 232 64 (stV kF) _ rfl hb2 Tryz.underlying232 rfl (by kernel_rfl)) rfl ⟨rfl, ?_⟩
  exact hbel1.trans (ho2.below (by omega))
theorem RStart_any (w : World) : Calls Tryz.prog 48 #[] w fun e w' => ∃ g, e = .returned (.slice (some ⟨g, 0, none⟩) 8 8) ∧ Blk w' g 24 (tab 8 (stV hF)) ∧ w.heap.size ≤ g ∧ Below w.heap.size w w' := by
  go_enter Tryz.func48, Tryz.ntmps48
  go_wp2_with fail
  go_ret
  exact ⟨w.heap.size, rfl, (Blk.new w _ _).congr rfl, Nat.le_refl _, (Below.refl _ _).alloc (Nat.le_refl _) _⟩
set_option maxRecDepth 100000 in
theorem Rroots_any (w : World) : Calls Tryz.prog 76 #[] w fun e w' => ∃ g, e = .returned (.slice (some ⟨g, 0, none⟩) 64 64) ∧ Blk w' g 24 (tab 64 (stV kF)) ∧ w.heap.size ≤ g ∧ Below w.heap.size w w' := by
  go_enter Tryz.func76, Tryz.ntmps76
  go_wp2_with fail
  go_ret
  exact ⟨w.heap.size, rfl, (Blk.new w _ _).congr rfl, Nat.le_refl _, (Below.refl _ _).alloc (Nat.le_refl _) _⟩
end Go.Proofs.YtlmefcepdadfjaaGreat
/- Plain: a round, a block. The walk over the package's Block. -/
namespace Go.Proofs.YtlmefcepdadfjaaGreat
open Go.RowKit

def chF (s : Nat → Nat) : Nat := (s 4 &&& s 5) ^^^ ((4294967295 - s 4) &&& s 6)
def majF (s : Nat → Nat) : Nat := (s 0 &&& s 1) ^^^ (s 0 &&& s 2) ^^^ (s 1 &&& s 2)
def oneF (k w : Nat) (s : Nat → Nat) : Nat := ((((s 7 + overR (s 4) 6 11 25) % 4294967296 + chF s) % 4294967296 + k) % 4294967296 + w) % 4294967296
def twoF (s : Nat → Nat) : Nat := (overR (s 0) 2 13 22 + majF s) % 4294967296
def rndF (k w : Nat) (s : Nat → Nat) (j : Nat) : Nat :=
  if j = 0 then (oneF k w s + twoF s) % 4294967296 else if j = 4 then (s 3 + oneF k w s) % 4294967296 else s (j - 1)
def rndN (b : List UInt8) : Nat → (Nat → Nat) → Nat → Nat
  | 0, s => s
  | t + 1, s => rndF (kF t) (wl b 64 t) (rndN b t s)
def blockF (b : List UInt8) (s : Nat → Nat) (j : Nat) : Nat := (rndN b 64 s j + s j) % 4294967296
theorem and_lt32 {a b : Nat} (ha : a < 4294967296) : a &&& b < 4294967296 := Nat.lt_of_le_of_lt Nat.and_le_left ha
theorem rndN_lt (b : List UInt8) (s : Nat → Nat) (hs : ∀ j, s j < 4294967296) : ∀ (t j : Nat), rndN b t s j < 4294967296
  | 0, j => hs j
  | t + 1, j => by
    simp only [rndN, rndF]
    split
    · exact Nat.mod_lt _ (by omega)
    · split
      · exact Nat.mod_lt _ (by omega)
      · exact rndN_lt b s hs t (j - 1)
theorem u32_andc (x y : Nat) (hx : x < 4294967296) (hy : y < 4294967296) : bits BinOp.and IntKind.u32 (x : Int) (y : Int) = ((x &&& y : Nat) : Int) := u32_and_nat x y hx hy
attribute [go_sem] u32_andc
theorem wpList_store_whole {P : Program} {ops : Array Oper} {rest : List Oper} {o : Oper} {a : Act} {w : World} {Q : Exit → Act → World → Prop} (hgd : o.guard = none) (ty : TypeId) (x y : Operand) (ho : o.op = .store ty x y)
    (g e : Nat) (n : Nat) (hi : (P.info? ty).map (·.size) = some n) (f0 : Nat → Value) (hb : Blk w g e (tab n f0)) (cells : List Value) (hx : a.eval x = .pointer (some ⟨g, 0, none⟩)) (hy : a.eval y = .agg cells.toArray) (hc : cells.length = n)
    (h1 : ∀ v ∈ cells, v.oneCell' = true)
    (h : ∀ w', Blk w' g e cells → Only g w w' → wpList P ops Q rest (a.put o.dst undef) w') : wpList P ops Q (o :: rest) a w := by
  refine wpList_store_agg hgd ty x y ho g 0 e cells.toArray hx hy (tab n f0) hb (by rw [hi, List.size_toArray, hc]) (by rw [tab_length, List.size_toArray, hc]; omega) (by simpa using h1) fun w' hb' ho' => h w' (hb'.congr ?_) ho'
  rw [List.size_toArray, hc, List.take_zero, List.nil_append, Nat.zero_add, List.drop_of_length_le (by rw [tab_length]; omega), List.append_nil]
theorem results_cell2_tab {P : Program} {fn : Func} {p q : Tmp} {ty : TypeId} (h : fn.results = #[.cell p ty, .tmp q]) (tmps : Array Value) (w : World) (g e n : Nat) (f : Nat → Value) (d : TypeDesc) (v : Value)
    (hp : tmps.getD p undef = .pointer (some ⟨g, 0, none⟩)) (hq : tmps.getD q undef = v) (hb : Blk w g e (tab n f))
    (hu : P.underlying ty = some d) (hd : (match d with | .struct _ | .array _ _ => true | _ => false) = true) (hi : (P.info? ty).map (·.size) = some n) :
    (results fn tmps).run P w = .ok (.tuple #[.agg (tab n f).toArray, v]) w := by
  have hp' : tmps[p]?.getD undef = .pointer (some ⟨g, 0, none⟩) := by simpa using hp
  have hq' : tmps[q]?.getD undef = v := by simpa using hq
  have := run_loadVar_blk (P := P) w g 0 e ty (tab n f) n d hb hu hd hi (by rw [tab_length]; omega)
  rw [List.drop_zero, List.take_of_length_le (by rw [tab_length]; omega)] at this
  simp [results, h, hp', hq', asAddr, this]
theorem list8 {f : Nat → Value} {a0 a1 a2 a3 a4 a5 a6 a7 : Value} (h0 : a0 = f 0) (h1 : a1 = f 1) (h2 : a2 = f 2) (h3 : a3 = f 3) (h4 : a4 = f 4) (h5 : a5 = f 5) (h6 : a6 = f 6) (h7 : a7 = f 7) : [a0, a1, a2, a3, a4, a5, a6, a7] = tab 8 f := by
  rw [h0, h1, h2, h3, h4, h5, h6, h7]; rfl
theorem Only.drew' {g : Nat} {w w' : World} (h : Only g w w') : Only g w w'.drew := ⟨h.os, h.tape, h.output, h.size, h.block⟩
theorem quiet_left {P : Program} {f : FuncId} {args : Array Value} {w : World} {n : Nat} {v : Value} (h : Calls P f args (w.drewN n) fun e w' => e = .returned v ∧ w.drewN n = w') : Calls P f args (w.drewN n) fun e w'' => e = .returned v ∧ ∃ m, w'' = w.drewN m :=
  h.mono fun _ _ ⟨he, hm⟩ => ⟨he, n, hm.symm⟩
def Vars3 (b : List UInt8) (s : Nat → Nat) (_g2 _g4 : Nat) (w0 w : World) (v6 v7 v8 : Value) : Prop :=
  ∃ g6 g7 g8, v6 = .pointer (some ⟨g6, 0, none⟩) ∧ v7 = .pointer (some ⟨g7, 0, none⟩) ∧ v8 = .pointer (some ⟨g8, 0, none⟩) ∧
    Blk w g6 232 (tab 64 (wV b 64)) ∧ Blk w g7 232 (tab 64 (stV kF)) ∧ Blk w g8 206 (tab 8 (stV s)) ∧ Below w0.heap.size w0 w ∧ w0.heap.size ≤ g6 ∧ w0.heap.size ≤ g7 ∧ w0.heap.size ≤ g8 ∧ g8 ≠ g6 ∧ g8 ≠ g7 ∧ g6 ≠ g7
def I3 (b : List UInt8) (str : ByteArray) (s : Nat → Nat) (g2 : Nat) (w0 : World) (A : Array Value) (L : Nat → Bool) (a : Act) (w : World) : Prop :=
  FrameI A [19, 20, 21, 22, 6, 7, 8] a ∧ Below w0.heap.size w0 w ∧ Blk w g2 206 (tab 8 (stV s)) ∧
  (L 0 = true → a.tmps.getD 19 undef = .string str) ∧ (L 1 = true → a.tmps.getD 20 undef = .agg (tab 64 (wV b 64)).toArray) ∧ (L 2 = true → a.tmps.getD 21 undef = .agg (tab 64 (stV kF)).toArray) ∧
  (L 3 = true → a.tmps.getD 22 undef = .agg (tab 8 (stV s)).toArray) ∧
  ∃ g6 g7 g8, Cell3 (L 4) (L 7) (a.tmps.getD 6 undef) w0.heap.size g6 w 232 64 (wV b 64) (stV fun _ => 0) ∧
    Cell3 (L 5) (L 8) (a.tmps.getD 7 undef) w0.heap.size g7 w 232 64 (stV kF) (stV fun _ => 0) ∧
    Cell3 (L 6) (L 9) (a.tmps.getD 8 undef) w0.heap.size g8 w 206 8 (stV s) (stV fun _ => 0) ∧
    (L 4 = true → L 5 = true → g6 ≠ g7) ∧ (L 4 = true → L 6 = true → g8 ≠ g6) ∧ (L 5 = true → L 6 = true → g8 ≠ g7)
set_option maxHeartbeats 4000000 in
set_option maxRecDepth 100000 in
theorem Block_yes (s : Nat → Nat) (hs : ∀ j, s j < 4294967296) (str : ByteArray) (hl : str.size = 64) (w : World) :
    Calls Tryz.prog 146 #[.agg (tab 8 (stV s)).toArray, .string str] w fun e w' => e = .returned (.tuple #[.agg (tab 8 (stV (blockF str.data.toList s))).toArray, .int .i64 0]) ∧ Below w.heap.size w w' := by
  have hl1 : ((str.size : Int) != 64) = false := by simp [hl]
  have HLS := Go.Lib.hid hl
  clear hl
  go_enter Tryz.func146, Tryz.ntmps146
  go_wp2_with (with_reducible refine wpList_box_tab (o := ⟨some 2, _, _, _, _, _⟩) rfl 206 _ rfl 8 (stV s) rfl ?_)
  intro w1 hb1 hbel1 hsz1
  go_wp2_with (with_reducible refine wpList_alloc_blk (o := ⟨some 4, _, _, _, _, _⟩) rfl 206 rfl (.agg (tab 8 (stV fun _ => 0)).toArray) (by kernel_rfl) ?_)
  intro w2 hb2 hbel2 hsz2
  have hb12 := hb1.kept hbel2
  have hbel := kp_step hbel1 hbel2
  obtain ⟨g2, hg2⟩ : ∃ g, w.heap.size = g := ⟨_, rfl⟩
  obtain ⟨g4, hg4⟩ : ∃ g, w1.heap.size = g := ⟨_, rfl⟩
  rw [hg2] at hb12
  rw [hg4] at hb2
  simp only [hg2, hg4]
  have hg24 : g2 < g4 := by omega
  have hgw : g4 < w2.heap.size := by omega
  have HG2 := Go.Lib.hid hg2; have HG4 := Go.Lib.hid hg4; have HB12 := Go.Lib.hid hb12; have HB4 := Go.Lib.hid hb2; have HBEL := Go.Lib.hid hbel
  clear hb1 hb2 hb12 hbel hbel1 hbel2 hsz1 hsz2 hg2 hg4
  go_upto_region 3 with fail
  go_cut [6, 7, 8] (fun v6 v7 v8 wx => Vars3 str.data.toList s g2 g4 w2 wx v6 v7 v8)
  case first =>
    refine wp_region_inv2 (by kernel_rfl) (by kernel_rfl) (I3 str.data.toList str s g2 w2) ?_ ?_ ?_
    · exact ⟨FrameI.refl _ _, (Below.refl _ _).drew, HB12.out, absF, absF, absF, absF, 0, 0, 0, Cell3.start _ _ _ _ _ _ _ _, Cell3.start _ _ _ _ _ _ _ _, Cell3.start _ _ _ _ _ _ _ _, absF, absF, absF⟩
    · intro L a wx i o hI ho hL hd
      obtain ⟨hF, hbw, hbs, h0, h1, h2, h3, g6, g7, g8, c6, c7, c8, n67, n86, n87⟩ := hI
      have hsz : a.tmps.size = 110 := hF.size
      have hi : i < 10 := (Array.getElem?_eq_some_iff.1 ho).1
      obtain rfl | rfl | rfl | rfl | rfl | rfl | rfl | rfl | rfl | rfl : i = 0 ∨ i = 1 ∨ i = 2 ∨ i = 3 ∨ i = 4 ∨ i = 5 ∨ i = 6 ∨ i = 7 ∨ i = 8 ∨ i = 9 := by omega
      all_goals
        have ho' := ho
        simp only [List.getElem?_toArray, List.getElem?_cons_zero, List.getElem?_cons_succ, Option.some.injEq] at ho'
        subst ho'
      · refine wpOp_of ho rfl (wp_move _ rfl ?_)
        rw [show a.eval (.tmp 1) = .string str from hF.keep 1 (by decide)]
        refine ⟨hF.put (by decide) _, hbw, hbs, (fun _ => slot_same (by omega)), (imp_set h1 (by decide) (fun h => slot_other h (by decide))), (imp_set h2 (by decide) (fun h => slot_other h (by decide))), (imp_set h3 (by decide) (fun h => slot_other h (by decide))), g6, g7, g8, ?_, ?_, ?_, ?_, ?_, ?_⟩
        all_goals simp only [setL_ne (show (4 : Nat) ≠ 0 by decide), setL_ne (show (5 : Nat) ≠ 0 by decide), setL_ne (show (6 : Nat) ≠ 0 by decide), setL_ne (show (7 : Nat) ≠ 0 by decide), setL_ne (show (8 : Nat) ≠ 0 by decide), setL_ne (show (9 : Nat) ≠ 0 by decide)]
        · exact (c6).slot (slot_other rfl (by decide))
        · exact (c7).slot (slot_other rfl (by decide))
        · exact (c8).slot (slot_other rfl (by decide))
        · exact n67
        · exact n86
        · exact n87
      · have d0 : L 0 = true := hd { on := 0, ground := Ground.data } (by simp) rfl
        refine wpOp_of ho rfl (wp_call 160 _ _ rfl Tryz.f160 Tryz.func160 (by kernel_rfl) (by kernel_rfl) #[.string str] ?_ ((words_any str HLS.out _).mono ?_))
        · simp only [List.map_toArray, List.map_cons, List.map_nil]
          rw [show a.eval (.tmp 19) = .string str from h0 d0]
        rintro e w3 ⟨rfl, hb3⟩
        refine ⟨_, rfl, ?_⟩
        refine ⟨hF.put (by decide) _, (kp_step hbw hb3), (hbs.kept hb3), (imp_set h0 (by decide) (fun h => slot_other h (by decide))), (fun _ => slot_same (by omega)), (imp_set h2 (by decide) (fun h => slot_other h (by decide))), (imp_set h3 (by decide) (fun h => slot_other h (by decide))), g6, g7, g8, ?_, ?_, ?_, ?_, ?_, ?_⟩
        all_goals simp only [setL_ne (show (4 : Nat) ≠ 1 by decide), setL_ne (show (5 : Nat) ≠ 1 by decide), setL_ne (show (6 : Nat) ≠ 1 by decide), setL_ne (show (7 : Nat) ≠ 1 by decide), setL_ne (show (8 : Nat) ≠ 1 by decide), setL_ne (show (9 : Nat) ≠ 1 by decide)]
        · exact (c6.kept hb3).slot (slot_other rfl (by decide))
        · exact (c7.kept hb3).slot (slot_other rfl (by decide))
        · exact (c8.kept hb3).slot (slot_other rfl (by decide))
        · exact n67
        · exact n86
        · exact n87
      · refine wpOp_of ho rfl (wp_call 161 _ _ rfl Tryz.f161 Tryz.func161 (by kernel_rfl) (by kernel_rfl) #[] (by simp) ((roots_any _).mono ?_))
        rintro e w3 ⟨rfl, hb3⟩
        refine ⟨_, rfl, ?_⟩
        refine ⟨hF.put (by decide) _, (kp_step hbw hb3), (hbs.kept hb3), (imp_set h0 (by decide) (fun h => slot_other h (by decide))), (imp_set h1 (by decide) (fun h => slot_other h (by decide))), (fun _ => slot_same (by omega)), (imp_set h3 (by decide) (fun h => slot_other h (by decide))), g6, g7, g8, ?_, ?_, ?_, ?_, ?_, ?_⟩
        all_goals simp only [setL_ne (show (4 : Nat) ≠ 2 by decide), setL_ne (show (5 : Nat) ≠ 2 by decide), setL_ne (show (6 : Nat) ≠ 2 by decide), setL_ne (show (7 : Nat) ≠ 2 by decide), setL_ne (show (8 : Nat) ≠ 2 by decide), setL_ne (show (9 : Nat) ≠ 2 by decide)]
        · exact (c6.kept hb3).slot (slot_other rfl (by decide))
        · exact (c7.kept hb3).slot (slot_other rfl (by decide))
        · exact (c8.kept hb3).slot (slot_other rfl (by decide))
        · exact n67
        · exact n86
        · exact n87
      · refine wpOp_of ho rfl (wp_load_tab 206 _ rfl g2 206 (hF.keep 2 (by decide)) 8 (stV s) _ hbs Tryz.underlying206 rfl (by kernel_rfl) ?_)
        refine ⟨hF.put (by decide) _, hbw, hbs, (imp_set h0 (by decide) (fun h => slot_other h (by decide))), (imp_set h1 (by decide) (fun h => slot_other h (by decide))), (imp_set h2 (by decide) (fun h => slot_other h (by decide))), (fun _ => slot_same (by omega)), g6, g7, g8, ?_, ?_, ?_, ?_, ?_, ?_⟩
        all_goals simp only [setL_ne (show (4 : Nat) ≠ 3 by decide), setL_ne (show (5 : Nat) ≠ 3 by decide), setL_ne (show (6 : Nat) ≠ 3 by decide), setL_ne (show (7 : Nat) ≠ 3 by decide), setL_ne (show (8 : Nat) ≠ 3 by decide), setL_ne (show (9 : Nat) ≠ 3 by decide)]
        · exact (c6).slot (slot_other rfl (by decide))
        · exact (c7).slot (slot_other rfl (by decide))
        · exact (c8).slot (slot_other rfl (by decide))
        · exact n67
        · exact n86
        · exact n87
      · refine wpOp_of ho rfl (wp_alloc_blk 232 rfl (.agg (tab 64 (stV fun _ => 0)).toArray) (by kernel_rfl) ?_)
        intro w3 hb3n hb3 hlt3
        have hem := c6.empty hL
        have hB3 := hbw.size
        refine ⟨hF.put (by decide) _, kp_step hbw hb3, hbs.kept hb3, (imp_set h0 (by decide) (fun h => slot_other h (by decide))), (imp_set h1 (by decide) (fun h => slot_other h (by decide))), (imp_set h2 (by decide) (fun h => slot_other h (by decide))), (imp_set h3 (by decide) (fun h => slot_other h (by decide))), wx.heap.size, g7, g8, ?_, ?_, ?_, ?_, ?_, ?_⟩
        all_goals simp only [setL_ne (show (5 : Nat) ≠ 4 by decide), setL_ne (show (6 : Nat) ≠ 4 by decide), setL_ne (show (7 : Nat) ≠ 4 by decide), setL_ne (show (8 : Nat) ≠ 4 by decide), setL_ne (show (9 : Nat) ≠ 4 by decide), setL_eq]
        · exact Cell3.new hem (slot_same (by omega)) hB3 hb3n
        · exact (c7.kept hb3).slot (slot_other rfl (by decide))
        · exact (c8.kept hb3).slot (slot_other rfl (by decide))
        · intro _ hm; have := c7.lt hm; omega
        · intro _ hm; have := c8.lt hm; omega
        · exact n87
      · refine wpOp_of ho rfl (wp_alloc_blk 232 rfl (.agg (tab 64 (stV fun _ => 0)).toArray) (by kernel_rfl) ?_)
        intro w3 hb3n hb3 hlt3
        have hem := c7.empty hL
        have hB3 := hbw.size
        refine ⟨hF.put (by decide) _, kp_step hbw hb3, hbs.kept hb3, (imp_set h0 (by decide) (fun h => slot_other h (by decide))), (imp_set h1 (by decide) (fun h => slot_other h (by decide))), (imp_set h2 (by decide) (fun h => slot_other h (by decide))), (imp_set h3 (by decide) (fun h => slot_other h (by decide))), g6, wx.heap.size, g8, ?_, ?_, ?_, ?_, ?_, ?_⟩
        all_goals simp only [setL_ne (show (4 : Nat) ≠ 5 by decide), setL_ne (show (6 : Nat) ≠ 5 by decide), setL_ne (show (7 : Nat) ≠ 5 by decide), setL_ne (show (8 : Nat) ≠ 5 by decide), setL_ne (show (9 : Nat) ≠ 5 by decide), setL_eq]
        · exact (c6.kept hb3).slot (slot_other rfl (by decide))
        · exact Cell3.new hem (slot_same (by omega)) hB3 hb3n
        · exact (c8.kept hb3).slot (slot_other rfl (by decide))
        · intro hm _; have := c6.lt hm; omega
        · exact n86
        · intro _ hm; have := c8.lt hm; omega
      · refine wpOp_of ho rfl (wp_alloc_blk 206 rfl (.agg (tab 8 (stV fun _ => 0)).toArray) (by kernel_rfl) ?_)
        intro w3 hb3n hb3 hlt3
        have hem := c8.empty hL
        have hB3 := hbw.size
        refine ⟨hF.put (by decide) _, kp_step hbw hb3, hbs.kept hb3, (imp_set h0 (by decide) (fun h => slot_other h (by decide))), (imp_set h1 (by decide) (fun h => slot_other h (by decide))), (imp_set h2 (by decide) (fun h => slot_other h (by decide))), (imp_set h3 (by decide) (fun h => slot_other h (by decide))), g6, g7, wx.heap.size, ?_, ?_, ?_, ?_, ?_, ?_⟩
        all_goals simp only [setL_ne (show (4 : Nat) ≠ 6 by decide), setL_ne (show (5 : Nat) ≠ 6 by decide), setL_ne (show (7 : Nat) ≠ 6 by decide), setL_ne (show (8 : Nat) ≠ 6 by decide), setL_ne (show (9 : Nat) ≠ 6 by decide), setL_eq]
        · exact (c6.kept hb3).slot (slot_other rfl (by decide))
        · exact (c7.kept hb3).slot (slot_other rfl (by decide))
        · exact Cell3.new hem (slot_same (by omega)) hB3 hb3n
        · exact n67
        · intro hm _; have := c6.lt hm; omega
        · intro hm _; have := c7.lt hm; omega
      · have d4 : L 4 = true := hd { on := 4, ground := Ground.data } (by simp) rfl
        have d1 : L 1 = true := hd { on := 1, ground := Ground.data } (by simp) rfl
        obtain ⟨e1, e2, e3, e4⟩ := c6.2 d4
        refine wpOp_of ho rfl (wp_store_tab 232 (.tmp 6) (.tmp 20) rfl g6 232 64 (wV str.data.toList 64) (stV fun _ => 0) e1 (h1 d1) (e4 hL) (by kernel_rfl) (fun _ => rfl) ?_)
        intro w3 hb3n ho3
        have hne2 : g2 ≠ g6 := by have := HB12.out.lt; omega
        refine ⟨hF, hbw.trans (ho3.below e2), ho3.other hbs hne2, (imp_set h0 (by decide) (fun h => h)), (imp_set h1 (by decide) (fun h => h)), (imp_set h2 (by decide) (fun h => h)), (imp_set h3 (by decide) (fun h => h)), g6, g7, g8, ?_, ?_, ?_, ?_, ?_, ?_⟩
        all_goals simp only [setL_ne (show (4 : Nat) ≠ 7 by decide), setL_ne (show (5 : Nat) ≠ 7 by decide), setL_ne (show (6 : Nat) ≠ 7 by decide), setL_ne (show (8 : Nat) ≠ 7 by decide), setL_ne (show (9 : Nat) ≠ 7 by decide), setL_eq]
        · exact c6.fill d4 hb3n
        · exact c7.only ho3 (fun hm => (n67 d4 hm).symm)
        · exact c8.only ho3 (fun hm => (n86 d4 hm))
        · exact n67
        · exact n86
        · exact n87
      · have d4 : L 5 = true := hd { on := 5, ground := Ground.data } (by simp) rfl
        have d1 : L 2 = true := hd { on := 2, ground := Ground.data } (by simp) rfl
        obtain ⟨e1, e2, e3, e4⟩ := c7.2 d4
        refine wpOp_of ho rfl (wp_store_tab 232 (.tmp 7) (.tmp 21) rfl g7 232 64 (stV kF) (stV fun _ => 0) e1 (h2 d1) (e4 hL) (by kernel_rfl) (fun _ => rfl) ?_)
        intro w3 hb3n ho3
        have hne2 : g2 ≠ g7 := by have := HB12.out.lt; omega
        refine ⟨hF, hbw.trans (ho3.below e2), ho3.other hbs hne2, (imp_set h0 (by decide) (fun h => h)), (imp_set h1 (by decide) (fun h => h)), (imp_set h2 (by decide) (fun h => h)), (imp_set h3 (by decide) (fun h => h)), g6, g7, g8, ?_, ?_, ?_, ?_, ?_, ?_⟩
        all_goals simp only [setL_ne (show (4 : Nat) ≠ 8 by decide), setL_ne (show (5 : Nat) ≠ 8 by decide), setL_ne (show (6 : Nat) ≠ 8 by decide), setL_ne (show (7 : Nat) ≠ 8 by decide), setL_ne (show (9 : Nat) ≠ 8 by decide), setL_eq]
        · exact c6.only ho3 (fun hm => (n67 hm d4))
        · exact c7.fill d4 hb3n
        · exact c8.only ho3 (fun hm => (n87 d4 hm))
        · exact n67
        · exact n86
        · exact n87
      · have d4 : L 6 = true := hd { on := 6, ground := Ground.data } (by simp) rfl
        have d1 : L 3 = true := hd { on := 3, ground := Ground.data } (by simp) rfl
        obtain ⟨e1, e2, e3, e4⟩ := c8.2 d4
        refine wpOp_of ho rfl (wp_store_tab 206 (.tmp 8) (.tmp 22) rfl g8 206 8 (stV s) (stV fun _ => 0) e1 (h3 d1) (e4 hL) (by kernel_rfl) (fun _ => rfl) ?_)
        intro w3 hb3n ho3
        have hne2 : g2 ≠ g8 := by have := HB12.out.lt; omega
        refine ⟨hF, hbw.trans (ho3.below e2), ho3.other hbs hne2, (imp_set h0 (by decide) (fun h => h)), (imp_set h1 (by decide) (fun h => h)), (imp_set h2 (by decide) (fun h => h)), (imp_set h3 (by decide) (fun h => h)), g6, g7, g8, ?_, ?_, ?_, ?_, ?_, ?_⟩
        all_goals simp only [setL_ne (show (4 : Nat) ≠ 9 by decide), setL_ne (show (5 : Nat) ≠ 9 by decide), setL_ne (show (6 : Nat) ≠ 9 by decide), setL_ne (show (7 : Nat) ≠ 9 by decide), setL_ne (show (8 : Nat) ≠ 9 by decide), setL_eq]
        · exact c6.only ho3 (fun hm => (n86 hm d4).symm)
        · exact c7.only ho3 (fun hm => (n87 hm d4).symm)
        · exact c8.fill d4 hb3n
        · exact n67
        · exact n86
        · exact n87
    · intro L a wx hI hall
      obtain ⟨hF, hbw, hbs, h0, h1, h2, h3, g6, g7, g8, c6, c7, c8, n67, n86, n87⟩ := hI
      have t0 : L 0 = true := hall 0 (by decide); have t1 : L 1 = true := hall 1 (by decide); have t2 : L 2 = true := hall 2 (by decide); have t3 : L 3 = true := hall 3 (by decide); have t4 : L 4 = true := hall 4 (by decide)
      have t5 : L 5 = true := hall 5 (by decide); have t6 : L 6 = true := hall 6 (by decide); have t7 : L 7 = true := hall 7 (by decide); have t8 : L 8 = true := hall 8 (by decide); have t9 : L 9 = true := hall 9 (by decide)
      obtain ⟨e61, e62, e63, _⟩ := c6.2 t4
      obtain ⟨e71, e72, e73, _⟩ := c7.2 t5
      obtain ⟨e81, e82, e83, _⟩ := c8.2 t6
      have hA := hF.eq [(19, .string str), (20, .agg (tab 64 (wV str.data.toList 64)).toArray), (21, .agg (tab 64 (stV kF)).toArray), (22, .agg (tab 8 (stV s)).toArray), (6, .pointer (some ⟨g6, 0, none⟩)), (7, .pointer (some ⟨g7, 0, none⟩)), (8, .pointer (some ⟨g8, 0, none⟩))]
        (by
          intro x hx
          simp only [List.mem_cons, List.not_mem_nil, or_false] at hx
          rcases hx with rfl | rfl | rfl | rfl | rfl | rfl | rfl
          · exact ⟨show (19 : Nat) < 110 by decide, h0 t0⟩
          · exact ⟨show (20 : Nat) < 110 by decide, h1 t1⟩
          · exact ⟨show (21 : Nat) < 110 by decide, h2 t2⟩
          · exact ⟨show (22 : Nat) < 110 by decide, h3 t3⟩
          · exact ⟨show (6 : Nat) < 110 by decide, e61⟩
          · exact ⟨show (7 : Nat) < 110 by decide, e71⟩
          · exact ⟨show (8 : Nat) < 110 by decide, e81⟩)
        (by
          intro s hs
          simp only [List.mem_cons, List.not_mem_nil, or_false] at hs
          rcases hs with rfl | rfl | rfl | rfl | rfl | rfl | rfl <;> rfl)
      rw [hA]
      simp only [putAll, List.setIfInBounds_toArray, List.set_cons_zero, List.set_cons_succ]
      go_wp2_with fail
      go_meet
      exact ⟨g6, g7, g8, rfl, rfl, rfl, e63 t7, e73 t8, e83 t9, hbw, e62, e72, e82, n86 t4 t6, n87 t5 t6, n67 t4 t5⟩
  case rest =>
    obtain ⟨g6, g7, g8, rfl, rfl, rfl, hb6, hb7, hb8, hbw, l6, l7, l8, n86, n87, n67⟩ := hcut
    have hb2 := HB12.out.kept hbw
    have hb4 := HB4.out.kept hbw
    have n82 : g2 ≠ g8 := by omega
    have n84 : g4 ≠ g8 := by omega
    have H6 := Go.Lib.hid hb6; have H7 := Go.Lib.hid hb7; have H2 := Go.Lib.hid hb2; have H4 := Go.Lib.hid hb4; have HBW := Go.Lib.hid hbw
    clear hb6 hb7 hb2 hb4 hbw
    have N86 : Hid (g8 ≠ g6) := n86; have N87 : Hid (g8 ≠ g7) := n87
    clear n67 n86 n87
    generalize hbs : str.data.toList = b at *
    have HBS := Go.Lib.hid hbs
    clear hbs
    go_wp2_with fail
    go_loopw [23] (fun i wr => ∃ t : Nat, t ≤ 64 ∧ i = .int .i64 t ∧ Blk wr g8 206 (tab 8 (stV (rndN b t s))) ∧ Only g8 wc wr) (fun i _ => 64 - (intOf i).toNat)
    case atStart => exact ⟨0, by omega, rfl, hb8, Only.refl⟩
    case round =>
      obtain ⟨t, ht, rfl, hbt, hon⟩ := hrel
      clear hb8
      by_cases h64 : t < 64
      · have hlt := rndN_lt b s hs t
        have hnext : rndN b (t + 1) s = rndF (kF t) (wl b 64 t) (rndN b t s) := rfl
        generalize rndN b t s = f at *
        have c0 : wr.cell? ⟨g8, 0, none⟩ = some (.int .u32 (f 0 : Nat)) := hbt.at 0 (by omega)
        have c1 : wr.cell? ⟨g8, 1, none⟩ = some (.int .u32 (f 1 : Nat)) := hbt.at 1 (by omega)
        have c2 : wr.cell? ⟨g8, 2, none⟩ = some (.int .u32 (f 2 : Nat)) := hbt.at 2 (by omega)
        have c3 : wr.cell? ⟨g8, 3, none⟩ = some (.int .u32 (f 3 : Nat)) := hbt.at 3 (by omega)
        have c4 : wr.cell? ⟨g8, 4, none⟩ = some (.int .u32 (f 4 : Nat)) := hbt.at 4 (by omega)
        have c5 : wr.cell? ⟨g8, 5, none⟩ = some (.int .u32 (f 5 : Nat)) := hbt.at 5 (by omega)
        have c6 : wr.cell? ⟨g8, 6, none⟩ = some (.int .u32 (f 6 : Nat)) := hbt.at 6 (by omega)
        have c7 : wr.cell? ⟨g8, 7, none⟩ = some (.int .u32 (f 7 : Nat)) := hbt.at 7 (by omega)
        have ck : wr.cell? ⟨g7, t, none⟩ = some (.int .u32 (kF t : Nat)) := (hon.other H7.out (N87.out.symm)).at t h64
        have cw : wr.cell? ⟨g6, t, none⟩ = some (.int .u32 (wl b 64 t : Nat)) := (hon.other H6.out (N86.out.symm)).at t h64
        have lk := kF_lt t
        have lw := wl_lt b 64 t
        have l0 := hlt 0; have l1 := hlt 1; have l2 := hlt 2; have l3 := hlt 3; have l4 := hlt 4; have l5 := hlt 5; have l6' := hlt 6; have l7' := hlt 7
        have HN := Go.Lib.hid hnext; have HBT := Go.Lib.hid hbt; have HON := Go.Lib.hid hon
        clear hlt hnext hbt hon
        have hR : ∀ j, j < 8 → rndF (kF t) (wl b 64 t) f j = if j = 0 then (oneF (kF t) (wl b 64 t) f + twoF f) % 4294967296 else if j = 4 then (f 3 + oneF (kF t) (wl b 64 t) f) % 4294967296 else f (j - 1) := fun j _ => rfl
        have hO : oneF (kF t) (wl b 64 t) f = ((((f 7 + overR (f 4) 6 11 25) % 4294967296 + ((f 4 &&& f 5) ^^^ ((4294967295 - f 4) &&& f 6))) % 4294967296 + kF t) % 4294967296 + wl b 64 t) % 4294967296 := rfl
        have hT : twoF f = (overR (f 0) 2 13 22 + ((f 0 &&& f 1) ^^^ (f 0 &&& f 2) ^^^ (f 1 &&& f 2))) % 4294967296 := rfl
        have HR := Go.Lib.hid hR; have HO := Go.Lib.hid hO; have HT := Go.Lib.hid hT
        clear hR hO hT
        have a45 : f 4 &&& f 5 < 4294967296 := and_lt32 l4
        have a46 : 4294967295 - f 4 < 4294967296 := by omega
        have a47 : (4294967295 - f 4) &&& f 6 < 4294967296 := and_lt32 a46
        have a01 : f 0 &&& f 1 < 4294967296 := and_lt32 l0
        have a02 : f 0 &&& f 2 < 4294967296 := and_lt32 l0
        have a12 : f 1 &&& f 2 < 4294967296 := and_lt32 l1
        have a03 := xor_lt32 a01 a02
        have i0 : (0 : Int) ≤ (t : Int) := by omega
        have i1 : (t : Int) < 64 := by omega
        go_wp2_with fail
        go_big_quiet ((go_at_call 162; exact quiet_left (over_r (f 4) l4 _ _ _ (by omega) (by omega) (by omega) _)))
        go_wp2_with (first
          | (go_at_call 162; refine (over_r (f 0) l0 _ _ _ (by omega) (by omega) (by omega) _).mono ?_; rintro e w5 ⟨rfl, rfl⟩)
          | (with_reducible refine wpList_store_whole (o := ⟨none, .store 206 (.tmp 8) (.tmp 95), _, _, _, _⟩) rfl 206 _ _ rfl g8 206 8 (by kernel_rfl) (stV f) (HBT.out.drewN nq) _ rfl rfl rfl ?_ ?_))
        · intro v hv
          simp only [List.mem_cons, List.not_mem_nil, or_false] at hv
          rcases hv with rfl | rfl | rfl | rfl | rfl | rfl | rfl | rfl <;> rfl
        intro w6 hb6 ho6
        go_wp2_with fail
        go_roundw
        case rel =>
          refine ⟨t + 1, by omega, by go_num, hb6.congr ?_, HON.out.trans ⟨ho6.os, ho6.tape, ho6.output, ho6.size, ho6.block⟩⟩
          rw [HN.out]
          have e0 := HR.out 0 (by decide)
          have e4 := HR.out 4 (by decide)
          rw [if_pos rfl, HO.out, HT.out] at e0
          rw [if_neg (by decide), if_pos rfl, HO.out] at e4
          refine list8 ?_ rfl rfl rfl ?_ rfl rfl rfl
          · show _ = Value.int .u32 ((rndF (kF t) (wl b 64 t) f 0 : Nat) : Int)
            rw [e0]
            congr 1
            omega
          · show _ = Value.int .u32 ((rndF (kF t) (wl b 64 t) f 4 : Nat) : Int)
            rw [e4]
            congr 1
            omega
        case measure => simp [intOf]; omega
      · obtain rfl : t = 64 := by omega
        have hlt := rndN_lt b s hs 64
        have hbl : ∀ j, blockF b s j = (rndN b 64 s j + s j) % 4294967296 := fun j => rfl
        generalize rndN b 64 s = f at *
        have HBL := Go.Lib.hid hbl; have HLT := Go.Lib.hid hlt
        clear hbl hlt
        go_wp2_with fail
        go_loopw [97] (fun i wr2 => ∃ j : Nat, j ≤ 8 ∧ i = .int .i64 j ∧ Blk wr2 g8 206 (tab 8 (fun q => if q < j then stV (blockF b s) q else stV f q)) ∧ Only g8 wc wr2) (fun i _ => 8 - (intOf i).toNat)
        case atStart => exact ⟨0, by omega, rfl, hbt, hon⟩
        case round =>
          obtain ⟨j, hj, rfl, hbj, hoj⟩ := hrel
          clear hbt hon
          by_cases hj8 : j < 8
          · have c8 : wr.cell? ⟨g8, j, none⟩ = some (.int .u32 (f j : Nat)) := by rw [hbj.at j hj8, if_neg (by omega)]; rfl
            have f8 := hbj.freeAt j hj8
            have c2 : wr.cell? ⟨g2, j, none⟩ = some (.int .u32 (s j : Nat)) := (hoj.other H2.out n82).at j hj8
            have l1 := HLT.out j
            have l2 := hs j
            have i0 : (0 : Int) ≤ (j : Int) := by omega
            have i1 : (j : Int) < 8 := by omega
            have hset : ∀ u : Value, u = stV (blockF b s) j → Blk (wr.setCell ⟨g8, j, none⟩ u) g8 206 (tab 8 (fun q => if q < j + 1 then stV (blockF b s) q else stV f q)) := fun u hu => hbj.setTab j u _ (by rw [if_pos (by omega), hu]) (fun i _ hi => by
              by_cases h : i < j
              · rw [if_pos h, if_pos (by omega)]
              · rw [if_neg h, if_neg (by omega)])
            have HSET := Go.Lib.hid hset; have HOJ := Go.Lib.hid hoj
            clear hset hbj hoj
            go_wp2_with fail
            go_region
            all_goals
              go_wp2_with fail
              go_roundw
              case rel =>
                refine ⟨j + 1, by omega, by go_num, HSET.out _ ?_, HOJ.out.trans ((Only.setCell j _).drew')⟩
                show _ = Value.int .u32 ((blockF b s j : Nat) : Int)
                rw [HBL.out]
                congr 1
              case measure => simp [intOf]; omega
          · obtain rfl : j = 8 := by omega
            have hfin : Blk wr g8 206 (tab 8 (stV (blockF b s))) := hbj.congr (tab_congr fun q hq => by rw [if_pos hq])
            have hb4r := hoj.other H4.out n84
            clear hbj
            go_wp2_with (first
              | (with_reducible refine wpList_load_tab (o := ⟨some 109, _, _, _, _, _⟩) rfl 206 _ rfl g8 206 rfl 8 _ _ hfin Tryz.underlying206 rfl (by kernel_rfl) ?_)
              | (with_reducible refine wpList_store_tab (o := ⟨none, _, _, _, _, _⟩) rfl 206 _ _ rfl g4 206 8 _ _ rfl rfl hb4r (by kernel_rfl) (fun _ => rfl) ?_))
            intro w6 hb6 ho6
            go_wp2_with fail
            refine bodyPost_ret (results_cell2_tab rfl _ _ g4 206 8 _ _ (.int .i64 0) rfl rfl hb6 Tryz.underlying206 rfl (by kernel_rfl)) rfl ⟨by rw [HBS.out], ?_⟩
            have h1 : Below w.heap.size w2 wc := HBW.out.mono (by rw [HG2.out]; omega)
            have h2 : Below w.heap.size wc wr := hoj.below (by rw [HG2.out]; omega)
            have h3 : Below w.heap.size wr w6 := ho6.below (by rw [HG2.out]; omega)
            exact HBEL.out.trans (h1.trans (h2.trans h3))
end Go.Proofs.YtlmefcepdadfjaaGreat

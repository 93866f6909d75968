/- Texts of this claim, one behind the other. -/
import Derived.Test.YtlmefcepdadfjaaGreatZShaF
import Derived.Test.YtlmefcepdadfjaaGreatZHkD
import Derived.Test.YtlmefcepdadfjaaGreatZSxA
/- Plain: what stands behind a text. The walk over the package's Pad. -/
namespace Go.Proofs.YtlmefcepdadfjaaGreat
open Go.RowKit

def lenB (n j : Nat) : UInt8 := UInt8.ofNat (n * 8 / 256 ^ (7 - j))
def zerosN (n : Nat) : Nat := (64 - (n % 64 + 9) % 64) % 64
def padL (n : Nat) : List UInt8 := [128] ++ List.replicate (zerosN n) 0 ++ tab 8 (lenB n)
def padB (n : Nat) : ByteArray := ⟨(padL n).toArray⟩
theorem padB_size (n : Nat) : (padB n).size = 9 + zerosN n := by
  show (padL n).toArray.size = _
  simp [padL, tab_length]; omega
theorem pad_full (n : Nat) : (n + (padB n).size) % 64 = 0 := by
  rw [padB_size]; unfold zerosN; omega
theorem zeros_lt (n : Nat) : zerosN n < 64 := Nat.mod_lt _ (by omega)
theorem repeat_zero (c : Nat) : Go.Lib.repeatL [0] c = List.replicate c (0 : UInt8) := by
  induction c with
  | zero => rfl
  | succ c ih => simp [Go.Lib.repeatL, ih, List.replicate_succ]
theorem run_string_blk' {P : Program} (w : World) (src dst e : TypeId) (hs : P.underlying src = some (.slice e)) (he : P.underlying e = some (.int .u8)) (hd : P.underlying dst = some .string)
    (g cap n : Nat) (l : List UInt8) (hn : l.length = n) (hb : Blk w g e (l.map fun b => .int .u8 (b.toNat : Int))) : (convert src dst (.slice (some ⟨g, 0, none⟩) n cap)).run P w = .ok (.string ⟨l.toArray⟩) w :=
  run_string_blk w src dst e hs he hd g cap n l hn (fun j hj => by rw [hb.cell]; simp [hj])
theorem wp_string_blk {P : Program} {o : Oper} {a : Act} {w : World} {K : Act → World → Prop} {Q : Exit → Act → World → Prop} (src dst e : TypeId) (x : Operand) (ho : o.op = .convert src dst x) (hs : P.underlying src = some (.slice e)) (he : P.underlying e = some (.int .u8)) (hd : P.underlying dst = some .string)
    (g cap n : Nat) (l : List UInt8) (hx : a.eval x = .slice (some ⟨g, 0, none⟩) n cap) (hn : l.length = n) (hb : Blk w g e (l.map fun b => .int .u8 (b.toNat : Int))) (h : K (a.put o.dst (.string ⟨l.toArray⟩)) w) : o.wp P a w K Q := by
  unfold Oper.wp execOp
  simp only [ho, hx, Sem.run_bind, Sem.run_pure, run_string_blk' w src dst e hs he hd g cap n l hn hb, Result.andThen_ok]
  exact h
theorem wp_add_str {P : Program} {o : Oper} {a : Act} {w : World} {K : Act → World → Prop} {Q : Exit → Act → World → Prop} (t t2 : TypeId) (x y : Operand) (ho : o.op = .binOp .add t x y t2) (_hu : P.underlying t = some .string) (p q : ByteArray) (hx : a.eval x = .string p) (hy : a.eval y = .string q) (hs : p.size + q.size ≤ 9223372036854775807)
    (h : K (a.put o.dst (.string (p ++ q))) w) : o.wp P a w K Q := by
  unfold Oper.wp execOp
  simp [ho, hx, hy, binOp, eqGuard, run_string_add_sum w p q hs]
  exact h
theorem ba_cat (p q : List UInt8) : (⟨p.toArray⟩ : ByteArray) ++ ⟨q.toArray⟩ = ⟨(p ++ q).toArray⟩ := by
  apply ByteArray.ext; simp
theorem wp_assign {P : Program} {o : Oper} {a : Act} {w : World} {K : Act → World → Prop} {Q : Exit → Act → World → Prop} (x : Operand) (ho : o.op = .assign x) (h : K (a.put o.dst (a.eval x)) w) : o.wp P a w K Q := by
  unfold Oper.wp execOp
  simp only [ho, Sem.run_pure, Oper.upon]
  exact h
def strB (l : List UInt8) : Value := .string ⟨l.toArray⟩
def IPad (n g : Nat) (w0 : World) (A : Array Value) (L : Nat → Bool) (a : Act) (w : World) : Prop :=
  FrameI A [34, 35, 36, 37, 38, 39, 40, 41, 2, 3] a ∧ Below w0.heap.size w0 w ∧ Blk w g 5 ((tab 8 (lenB n)).map fun b => .int .u8 (b.toNat : Int)) ∧
  (L 0 = true → ∃ q, a.tmps.getD 34 undef = .slice (some ⟨q, 0, none⟩) 1 1 ∧ Blk w q 5 (([128] : List UInt8).map fun b => .int .u8 (b.toNat : Int))) ∧
  (L 1 = true → a.tmps.getD 35 undef = strB [128]) ∧ (L 2 = true → a.tmps.getD 36 undef = .int .i64 (zerosN n : Nat)) ∧ (L 3 = true → a.tmps.getD 37 undef = strB (List.replicate (zerosN n) 0)) ∧
  (L 4 = true → a.tmps.getD 38 undef = strB ([128] ++ List.replicate (zerosN n) 0)) ∧ (L 5 = true → a.tmps.getD 39 undef = .slice (some ⟨g, 0, none⟩) 8 8) ∧ (L 6 = true → a.tmps.getD 40 undef = strB (tab 8 (lenB n))) ∧
  (L 7 = true → a.tmps.getD 41 undef = strB (padL n)) ∧ (L 8 = true → a.tmps.getD 2 undef = strB (padL n)) ∧ (L 9 = true → a.tmps.getD 3 undef = .int .i64 0)
set_option maxHeartbeats 4000000 in
set_option maxRecDepth 100000 in
theorem Pad_any (n : Nat) (hn : n ≤ 1099511627776) (w : World) :
    Calls Tryz.prog 140 #[.int .i64 (n : Nat)] w fun e w' => e = .returned (.tuple #[.string (padB n), .int .i64 0]) ∧ Below w.heap.size w w' := by
  go_enter Tryz.func140, Tryz.ntmps140
  go_wp2_with (with_reducible refine wpList_make_blk (o := ⟨some 19, _, _, _, _, _⟩) _ rfl _ _ 84 rfl 5 (.int .u8 0) 1 Tryz.underlying84 (by kernel_rfl) rfl 8 8 rfl rfl (by omega) (by omega) (by unfold maxLen; omega) ?_)
  intro w1 hb1 hbel1 hsz1
  obtain ⟨g, hg⟩ : ∃ g, w.heap.size = g := ⟨_, rfl⟩
  have HG := Go.Lib.hid hg
  rw [hg] at hb1 hbel1 hsz1
  simp only [hg]
  clear hg
  have hz : -(((n : Int) % 64 + 1 + 8) % 64) % 64 = ((zerosN n : Nat) : Int) := by unfold zerosN; omega
  have HZ := Go.Lib.hid hz
  go_wp2_with fail
  simp only [HZ.out]
  clear hz
  have hzl := zeros_lt n
  generalize hzz : zerosN n = z at *
  have HZZ := Go.Lib.hid hzz
  clear hzz
  go_loopw [7, 8] (fun i sz wr => ∃ q : Nat, q ≤ 8 ∧ Hid (i = .int .i64 ((q : Int) - 1)) ∧ sz = .int .u64 ((n * 8 / 256 ^ (8 - q) : Nat)) ∧ Blk wr g 5 (tab 8 (fun j => if q ≤ j then .int .u8 ((lenB n j).toNat : Int) else .int .u8 0)) ∧ Below g w wr) (fun i _ _ => (intOf i + 1).toNat)
  case atStart => exact ⟨8, by omega, Go.Lib.hid (by rfl), by simp, hb1.congr (tab_congr fun j hj => by rw [if_neg (by omega)]), hbel1⟩
  case round =>
    obtain ⟨q, hq, hi, rfl, hbt, hbel⟩ := hrel
    clear hb1 hbel1
    have HBT := Go.Lib.hid hbt; have HBEL := Go.Lib.hid hbel
    rcases q with _ | p
    · obtain rfl := hi.out
      rw [show (((0 : Nat) : Int) - 1) = -1 by omega]
      have hfin : Blk wr g 5 ((tab 8 (lenB n)).map fun b => .int .u8 (b.toNat : Int)) := hbt.congr (by rw [tab_map]; exact tab_congr fun j hj => if_pos (Nat.zero_le _))
      clear hbt hbel
      go_wp2_with fail
      refine wp_region_inv2 (by kernel_rfl) (by kernel_rfl) (IPad n g wr) ?_ ?_ ?_
      · exact ⟨FrameI.refl _ _, (Below.refl _ _).drew, hfin, absF, absF, absF, absF, absF, absF, absF, absF, absF, absF⟩
      · intro L a wx i o hI ho hL hd
        obtain ⟨hF, hbw, hbs, h0, h1, h2, h3, h4, h5, h6, h7, h8, h9⟩ := hI
        have hsz : a.tmps.size = 42 := hF.size
        have hi : i < 10 := (Array.getElem?_eq_some_iff.1 ho).1
        obtain rfl | rfl | rfl | rfl | rfl | rfl | rfl | rfl | rfl | rfl : i = 0 ∨ i = 1 ∨ i = 2 ∨ i = 3 ∨ i = 4 ∨ i = 5 ∨ i = 6 ∨ i = 7 ∨ i = 8 ∨ i = 9 := by omega
        all_goals
          have ho' := ho
          simp only [List.getElem?_toArray, List.getElem?_cons_zero, List.getElem?_cons_succ, Option.some.injEq] at ho'
          subst ho'
        · refine wpOp_of ho rfl ?_
          go_simp
          exact ⟨hF.put (by decide) _, kp_alloc hbw, hbs.alloc _, (fun _ => ⟨wx.heap.size, slot_same (by omega), Blk.new wx _ _⟩), (imp_set h1 (by decide) (fun h => slot_other h (by decide))), (imp_set h2 (by decide) (fun h => slot_other h (by decide))), (imp_set h3 (by decide) (fun h => slot_other h (by decide))), (imp_set h4 (by decide) (fun h => slot_other h (by decide))), (imp_set h5 (by decide) (fun h => slot_other h (by decide))), (imp_set h6 (by decide) (fun h => slot_other h (by decide))), (imp_set h7 (by decide) (fun h => slot_other h (by decide))), (imp_set h8 (by decide) (fun h => slot_other h (by decide))), (imp_set h9 (by decide) (fun h => slot_other h (by decide)))⟩
        · obtain ⟨q, e1, e2⟩ := h0 (hd { on := 0, ground := Ground.data } (by simp) rfl)
          refine wpOp_of ho rfl (wp_string_blk 84 9 5 _ rfl Tryz.underlying84 Tryz.underlying5 Tryz.underlying9 q 1 1 [128] e1 rfl e2 ?_)
          refine ⟨hF.put (by decide) _, hbw, hbs, (imp_set h0 (by decide) (fun h => h.imp fun q hq => ⟨slot_other hq.1 (by decide), hq.2⟩)), (fun _ => slot_same (by omega)), (imp_set h2 (by decide) (fun h => slot_other h (by decide))), (imp_set h3 (by decide) (fun h => slot_other h (by decide))), (imp_set h4 (by decide) (fun h => slot_other h (by decide))), (imp_set h5 (by decide) (fun h => slot_other h (by decide))), (imp_set h6 (by decide) (fun h => slot_other h (by decide))), (imp_set h7 (by decide) (fun h => slot_other h (by decide))), (imp_set h8 (by decide) (fun h => slot_other h (by decide))), (imp_set h9 (by decide) (fun h => slot_other h (by decide)))⟩
        · refine wpOp_of ho rfl (wp_move _ rfl ?_)
          rw [show a.eval (.tmp 5) = .int .i64 (zerosN n : Nat) by rw [HZZ.out]; exact hF.keep 5 (by decide)]
          refine ⟨hF.put (by decide) _, hbw, hbs, (imp_set h0 (by decide) (fun h => h.imp fun q hq => ⟨slot_other hq.1 (by decide), hq.2⟩)), (imp_set h1 (by decide) (fun h => slot_other h (by decide))), (fun _ => slot_same (by omega)), (imp_set h3 (by decide) (fun h => slot_other h (by decide))), (imp_set h4 (by decide) (fun h => slot_other h (by decide))), (imp_set h5 (by decide) (fun h => slot_other h (by decide))), (imp_set h6 (by decide) (fun h => slot_other h (by decide))), (imp_set h7 (by decide) (fun h => slot_other h (by decide))), (imp_set h8 (by decide) (fun h => slot_other h (by decide))), (imp_set h9 (by decide) (fun h => slot_other h (by decide)))⟩
        · have d2 := h2 (hd { on := 2, ground := Ground.data } (by simp) rfl)
          refine wpOp_of ho rfl (wp_call 147 _ _ rfl Tryz.f147 Tryz.func147 (by kernel_rfl) (by kernel_rfl) #[.string { data := #[0] }, .int .i64 (zerosN n : Nat)] ?_ ((Tryz.strings_Repeat { data := #[0] } (zerosN n) _ (by have := zeros_lt n; omega) (by have := zeros_lt n; show 1 * zerosN n ≤ _; omega)).mono ?_))
          · simp only [List.map_toArray, List.map_cons, List.map_nil]
            rw [show a.eval (.tmp 36) = .int .i64 (zerosN n : Nat) from d2]
            rfl
          rintro e w3 ⟨rfl, hb3⟩
          refine ⟨_, rfl, ?_⟩
          refine ⟨hF.put (by decide) _, (kp_step hbw hb3), (hbs.kept hb3), (imp_set h0 (by decide) (fun h => h.imp fun q hq => ⟨slot_other hq.1 (by decide), hq.2.kept hb3⟩)), (imp_set h1 (by decide) (fun h => slot_other h (by decide))), (imp_set h2 (by decide) (fun h => slot_other h (by decide))), (fun _ => (slot_same (by omega)).trans (by rw [strB, ← repeat_zero])), (imp_set h4 (by decide) (fun h => slot_other h (by decide))), (imp_set h5 (by decide) (fun h => slot_other h (by decide))), (imp_set h6 (by decide) (fun h => slot_other h (by decide))), (imp_set h7 (by decide) (fun h => slot_other h (by decide))), (imp_set h8 (by decide) (fun h => slot_other h (by decide))), (imp_set h9 (by decide) (fun h => slot_other h (by decide)))⟩
        · have d1 := h1 (hd { on := 1, ground := Ground.data } (by simp) rfl)
          have d3 := h3 (hd { on := 3, ground := Ground.data } (by simp) rfl)
          refine wpOp_of ho rfl (wp_add_str _ _ _ _ rfl Tryz.underlying9 ⟨([128] : List UInt8).toArray⟩ ⟨(List.replicate (zerosN n) 0).toArray⟩ d1 d3 (by have := zeros_lt n; show 1 + (List.replicate (zerosN n) (0 : UInt8)).toArray.size ≤ _; simp; omega) ?_)
          refine ⟨hF.put (by decide) _, hbw, hbs, (imp_set h0 (by decide) (fun h => h.imp fun q hq => ⟨slot_other hq.1 (by decide), hq.2⟩)), (imp_set h1 (by decide) (fun h => slot_other h (by decide))), (imp_set h2 (by decide) (fun h => slot_other h (by decide))), (imp_set h3 (by decide) (fun h => slot_other h (by decide))), (fun _ => (slot_same (by omega)).trans (congrArg Value.string (ba_cat _ _))), (imp_set h5 (by decide) (fun h => slot_other h (by decide))), (imp_set h6 (by decide) (fun h => slot_other h (by decide))), (imp_set h7 (by decide) (fun h => slot_other h (by decide))), (imp_set h8 (by decide) (fun h => slot_other h (by decide))), (imp_set h9 (by decide) (fun h => slot_other h (by decide)))⟩
        · refine wpOp_of ho rfl (wp_move _ rfl ?_)
          rw [show a.eval (.tmp 6) = .slice (some ⟨g, 0, none⟩) 8 8 from hF.keep 6 (by decide)]
          refine ⟨hF.put (by decide) _, hbw, hbs, (imp_set h0 (by decide) (fun h => h.imp fun q hq => ⟨slot_other hq.1 (by decide), hq.2⟩)), (imp_set h1 (by decide) (fun h => slot_other h (by decide))), (imp_set h2 (by decide) (fun h => slot_other h (by decide))), (imp_set h3 (by decide) (fun h => slot_other h (by decide))), (imp_set h4 (by decide) (fun h => slot_other h (by decide))), (fun _ => slot_same (by omega)), (imp_set h6 (by decide) (fun h => slot_other h (by decide))), (imp_set h7 (by decide) (fun h => slot_other h (by decide))), (imp_set h8 (by decide) (fun h => slot_other h (by decide))), (imp_set h9 (by decide) (fun h => slot_other h (by decide)))⟩
        · have d5 := h5 (hd { on := 5, ground := Ground.data } (by simp) rfl)
          refine wpOp_of ho rfl (wp_string_blk 84 9 5 _ rfl Tryz.underlying84 Tryz.underlying5 Tryz.underlying9 g 8 8 (tab 8 (lenB n)) d5 (tab_length _ _) hbs ?_)
          refine ⟨hF.put (by decide) _, hbw, hbs, (imp_set h0 (by decide) (fun h => h.imp fun q hq => ⟨slot_other hq.1 (by decide), hq.2⟩)), (imp_set h1 (by decide) (fun h => slot_other h (by decide))), (imp_set h2 (by decide) (fun h => slot_other h (by decide))), (imp_set h3 (by decide) (fun h => slot_other h (by decide))), (imp_set h4 (by decide) (fun h => slot_other h (by decide))), (imp_set h5 (by decide) (fun h => slot_other h (by decide))), (fun _ => slot_same (by omega)), (imp_set h7 (by decide) (fun h => slot_other h (by decide))), (imp_set h8 (by decide) (fun h => slot_other h (by decide))), (imp_set h9 (by decide) (fun h => slot_other h (by decide)))⟩
        · have d4 := h4 (hd { on := 4, ground := Ground.data } (by simp) rfl)
          have d6 := h6 (hd { on := 6, ground := Ground.data } (by simp) rfl)
          refine wpOp_of ho rfl (wp_add_str _ _ _ _ rfl Tryz.underlying9 ⟨([128] ++ List.replicate (zerosN n) 0 : List UInt8).toArray⟩ ⟨(tab 8 (lenB n)).toArray⟩ d4 d6 (by have := zeros_lt n; show ([128] ++ List.replicate (zerosN n) (0 : UInt8)).toArray.size + (tab 8 (lenB n)).toArray.size ≤ _; simp [tab_length]; omega) ?_)
          refine ⟨hF.put (by decide) _, hbw, hbs, (imp_set h0 (by decide) (fun h => h.imp fun q hq => ⟨slot_other hq.1 (by decide), hq.2⟩)), (imp_set h1 (by decide) (fun h => slot_other h (by decide))), (imp_set h2 (by decide) (fun h => slot_other h (by decide))), (imp_set h3 (by decide) (fun h => slot_other h (by decide))), (imp_set h4 (by decide) (fun h => slot_other h (by decide))), (imp_set h5 (by decide) (fun h => slot_other h (by decide))), (imp_set h6 (by decide) (fun h => slot_other h (by decide))), (fun _ => (slot_same (by omega)).trans (congrArg Value.string (ba_cat _ _))), (imp_set h8 (by decide) (fun h => slot_other h (by decide))), (imp_set h9 (by decide) (fun h => slot_other h (by decide)))⟩
        · have d7 := h7 (hd { on := 7, ground := Ground.data } (by simp) rfl)
          refine wpOp_of ho rfl (wp_assign _ rfl ?_)
          rw [show a.eval (.tmp 41) = strB (padL n) from d7]
          refine ⟨hF.put (by decide) _, hbw, hbs, (imp_set h0 (by decide) (fun h => h.imp fun q hq => ⟨slot_other hq.1 (by decide), hq.2⟩)), (imp_set h1 (by decide) (fun h => slot_other h (by decide))), (imp_set h2 (by decide) (fun h => slot_other h (by decide))), (imp_set h3 (by decide) (fun h => slot_other h (by decide))), (imp_set h4 (by decide) (fun h => slot_other h (by decide))), (imp_set h5 (by decide) (fun h => slot_other h (by decide))), (imp_set h6 (by decide) (fun h => slot_other h (by decide))), (imp_set h7 (by decide) (fun h => slot_other h (by decide))), (fun _ => slot_same (by omega)), (imp_set h9 (by decide) (fun h => slot_other h (by decide)))⟩
        · refine wpOp_of ho rfl (wp_assign _ rfl ?_)
          refine ⟨hF.put (by decide) _, hbw, hbs, (imp_set h0 (by decide) (fun h => h.imp fun q hq => ⟨slot_other hq.1 (by decide), hq.2⟩)), (imp_set h1 (by decide) (fun h => slot_other h (by decide))), (imp_set h2 (by decide) (fun h => slot_other h (by decide))), (imp_set h3 (by decide) (fun h => slot_other h (by decide))), (imp_set h4 (by decide) (fun h => slot_other h (by decide))), (imp_set h5 (by decide) (fun h => slot_other h (by decide))), (imp_set h6 (by decide) (fun h => slot_other h (by decide))), (imp_set h7 (by decide) (fun h => slot_other h (by decide))), (imp_set h8 (by decide) (fun h => slot_other h (by decide))), (fun _ => slot_same (by omega))⟩
      · intro L a wx hI hall
        obtain ⟨hF, hbw, hbs, h0, h1, h2, h3, h4, h5, h6, h7, h8, h9⟩ := hI
        obtain ⟨q, e34, _⟩ := h0 (hall 0 (by decide))
        have e35 := h1 (hall 1 (by decide)); have e36 := h2 (hall 2 (by decide)); have e37 := h3 (hall 3 (by decide)); have e38 := h4 (hall 4 (by decide)); have e39 := h5 (hall 5 (by decide)); have e40 := h6 (hall 6 (by decide)); have e41 := h7 (hall 7 (by decide))
        have e2 := h8 (hall 8 (by decide))
        have e3 := h9 (hall 9 (by decide))
        have hA := hF.eq [(34, .slice (some ⟨q, 0, none⟩) 1 1), (35, strB [128]), (36, .int .i64 (zerosN n : Nat)), (37, strB (List.replicate (zerosN n) 0)), (38, strB ([128] ++ List.replicate (zerosN n) 0)), (39, .slice (some ⟨g, 0, none⟩) 8 8), (40, strB (tab 8 (lenB n))), (41, strB (padL n)), (2, strB (padL n)), (3, .int .i64 0)]
          (by
            intro x hx
            simp only [List.mem_cons, List.not_mem_nil, or_false] at hx
            rcases hx with rfl | rfl | rfl | rfl | rfl | rfl | rfl | rfl | rfl | rfl
            · exact ⟨show (34 : Nat) < 42 by decide, e34⟩
            · exact ⟨show (35 : Nat) < 42 by decide, e35⟩
            · exact ⟨show (36 : Nat) < 42 by decide, e36⟩
            · exact ⟨show (37 : Nat) < 42 by decide, e37⟩
            · exact ⟨show (38 : Nat) < 42 by decide, e38⟩
            · exact ⟨show (39 : Nat) < 42 by decide, e39⟩
            · exact ⟨show (40 : Nat) < 42 by decide, e40⟩
            · exact ⟨show (41 : Nat) < 42 by decide, e41⟩
            · exact ⟨show (2 : Nat) < 42 by decide, e2⟩
            · exact ⟨show (3 : Nat) < 42 by decide, e3⟩)
          (by
            intro s hs
            simp only [List.mem_cons, List.not_mem_nil, or_false] at hs
            rcases hs with rfl | rfl | rfl | rfl | rfl | rfl | rfl | rfl | rfl | rfl <;> rfl)
        rw [hA]
        simp only [putAll, List.setIfInBounds_toArray, List.set_cons_zero, List.set_cons_succ]
        have hend : Below w.heap.size w wx := by
          rw [HG.out]
          exact HBEL.out.trans (hbw.mono (by have := HBEL.out.size; have := HG.out; omega))
        have HEND := Go.Lib.hid hend
        clear hend hA e34 e35 e36 e37 e38 e39 e40 e41 e2 e3 h0 h1 h2 h3 h4 h5 h6 h7 h8 h9 hbs hbw hF hall
        go_wp2_with fail
        go_ret2
        exact ⟨rfl, HEND.out⟩
    · obtain rfl := hi.out
      rw [show (((p + 1 : Nat) : Int) - 1) = (p : Int) by omega]
      have cP := hbt.at p (by omega)
      rw [if_neg (by omega)] at cP
      have fP := hbt.freeAt p (by omega)
      obtain ⟨S, hS⟩ : ∃ S, n * 8 / 256 ^ (8 - (p + 1)) = S := ⟨_, rfl⟩
      have hS2 : n * 8 / 256 ^ (8 - p) = S / 256 := by
        rw [show 8 - p = (8 - (p + 1)) + 1 by omega, Nat.pow_succ, ← Nat.div_div_eq_div_mul, hS]
      have hL : (lenB n p).toNat = S % 256 := by
        unfold lenB
        rw [show 7 - p = 8 - (p + 1) by omega, hS]
        simp
      have hSl : S ≤ n * 8 := by rw [← hS]; exact Nat.div_le_self _ _
      have hset : ∀ u : Value, u = .int .u8 ((S % 256 : Nat) : Int) → Blk (wr.setCell ⟨g, p, none⟩ u) g 5 (tab 8 (fun j => if p ≤ j then .int .u8 ((lenB n j).toNat : Int) else .int .u8 0)) := fun u hu => hbt.setTab p u _ (by rw [if_pos (Nat.le_refl _), hL, hu]) (fun i _ hi => by
        by_cases h : p + 1 ≤ i
        · rw [if_pos h, if_pos (by omega)]
        · rw [if_neg h, if_neg (by omega)])
      have HSET := Go.Lib.hid hset; have HS := Go.Lib.hid hS; have HS2 := Go.Lib.hid hS2
      have i0 : (0 : Int) ≤ (p : Int) := by omega
      have i1 : (p : Int) < 8 := by omega
      rw [hS]
      clear hset hS hS2 hL hbt hbel
      go_wp2_with fail
      go_roundw
      case rel =>
        refine ⟨p, by omega, Go.Lib.hid (by go_num), by rw [HS2.out]; go_num, HSET.out _ ?_, HBEL.out.trans ((Only.setCell (g := g) p _).below (Nat.le_refl _))⟩
        congr 1
      case measure => simp [intOf]
end Go.Proofs.YtlmefcepdadfjaaGreat
/- The walk over the package's feed: all whole blocks. -/
namespace Go.Proofs.YtlmefcepdadfjaaGreat
open Go.RowKit

theorem imp_mono {L : Nat → Bool} {i a b : Nat} (h : L a = true → L b = true) (hne : a ≠ i) : setL L i a = true → setL L i b = true := by
  unfold setL
  rw [if_neg hne]
  intro h1
  split
  · rfl
  · exact h h1
theorem wp_extract {P : Program} {o : Oper} {a : Act} {w : World} {K : Act → World → Prop} {Q : Exit → Act → World → Prop} (x : Operand) (n : Nat) (ho : o.op = .extract x n) (vs : Array Value) (hx : a.eval x = .tuple vs) (v : Value) (hv : vs[n]? = some v) (h : K (a.put o.dst v) w) : o.wp P a w K Q := by
  unfold Oper.wp execOp
  simp [ho, hx, hv, Instr.extract]
  exact h
theorem wp_cut64 {P : Program} {o : Oper} {a : Act} {w : World} {K : Act → World → Prop} {Q : Exit → Act → World → Prop} (t : TypeId) (x : Operand) (ho : o.op = .slice t x none (some (.const (.int .i64 64))) none) (hu : P.underlying t = some .string) (q : ByteArray) (hx : a.eval x = .string q) (hq : 64 ≤ q.size)
    (h : K (a.put o.dst (.string (q.extract 0 64))) w) : o.wp P a w K Q := by
  have e := (run_sliceAt_string (w := w) t (.string q) none (some (.int .i64 64)) none hu).trans (run_slice_string_h w t q hu .i64 64 (by omega) (by omega))
  unfold Oper.wp execOp
  simp [ho, hx, show a.eval (.const (.int .i64 64)) = .int .i64 64 from rfl, e]
  exact h
theorem cut_next (str : ByteArray) (k : Nat) (hk : 64 * (k + 1) ≤ str.size) : (str.extract (64 * k) str.size).extract 64 (str.extract (64 * k) str.size).size = str.extract (64 * (k + 1)) str.size := by
  apply ByteArray.ext
  simp
  congr 1
  · omega
theorem cut_head (str : ByteArray) (k : Nat) (hk : 64 * (k + 1) ≤ str.size) : ((str.extract (64 * k) str.size).extract 0 64).data.toList = (str.data.toList.drop (64 * k)).take 64 := by
  simp
  omega
def strSz : Value → Nat | .string s => s.size | _ => 0
def fedS (l : List UInt8) (s : Nat → Nat) : Nat → Nat → Nat
  | 0 => s
  | k + 1 => blockF ((l.drop (64 * k)).take 64) (fedS l s k)
theorem blockF_lt (b : List UInt8) (s : Nat → Nat) (j : Nat) : blockF b s j < 4294967296 := Nat.mod_lt _ (by omega)
theorem fedS_lt (l : List UInt8) (s : Nat → Nat) (hs : ∀ j, s j < 4294967296) (k j : Nat) : fedS l s k j < 4294967296 := by
  cases k with
  | zero => exact hs j
  | succ k => exact blockF_lt _ _ j
def FeedW (g2 g4 : Nat) (st st2 : Nat → Nat) (w0 : World) (filled : Bool) (w : World) : Prop :=
  Below g2 w0 w ∧ Blk w g4 206 (tab 8 (stV fun _ => 0)) ∧ (filled = false → Blk w g2 206 (tab 8 (stV st))) ∧ (filled = true → Blk w g2 206 (tab 8 (stV st2)))
section
variable {g2 g4 : Nat} {st st2 : Nat → Nat} {w0 w w' : World} {filled : Bool}
theorem FeedW.lt (h : FeedW g2 g4 st st2 w0 filled w) : g2 < w.heap.size := by
  obtain ⟨_, _, h1, h2⟩ := h
  cases filled
  · exact (h1 rfl).lt
  · exact (h2 rfl).lt
theorem FeedW.kept (h : FeedW g2 g4 st st2 w0 filled w) (hb : Below w.heap.size w w') : FeedW g2 g4 st st2 w0 filled w' :=
  ⟨h.1.trans (hb.mono (Nat.le_of_lt h.lt)), h.2.1.kept hb, fun hf => (h.2.2.1 hf).kept hb, fun hf => (h.2.2.2 hf).kept hb⟩
theorem FeedW.fill (h : FeedW g2 g4 st st2 w0 filled w) (hb : Blk w' g2 206 (tab 8 (stV st2))) (ho : Only g2 w w') (hne : g2 ≠ g4) : FeedW g2 g4 st st2 w0 true w' :=
  ⟨h.1.trans (ho.below (Nat.le_refl _)), ho.other h.2.1 hne.symm, (fun hf => by cases hf), fun _ => hb⟩
end
def IFeed (g2 g4 : Nat) (st st2 : Nat → Nat) (q : ByteArray) (w0 : World) (A : Array Value) (L : Nat → Bool) (a : Act) (w : World) : Prop :=
  FrameI A [10, 11, 12, 13, 9, 14, 15] a ∧
  FeedW g2 g4 st st2 w0 (L 7) w ∧
  (L 7 = true → L 0 = true) ∧
  (L 0 = true → a.tmps.getD 10 undef = .agg (tab 8 (stV st)).toArray) ∧
  (L 1 = true → a.tmps.getD 11 undef = .string q) ∧
  (L 2 = true → a.tmps.getD 12 undef = .string (q.extract 0 64)) ∧
  (L 3 = true → a.tmps.getD 13 undef = .tuple #[.agg (tab 8 (stV st2)).toArray, .int .i64 0]) ∧
  (L 4 = true → a.tmps.getD 9 undef = .tuple #[.agg (tab 8 (stV st2)).toArray, .int .i64 0]) ∧
  (L 5 = true → a.tmps.getD 14 undef = .agg (tab 8 (stV st2)).toArray) ∧
  (L 6 = true → a.tmps.getD 15 undef = .int .i64 0)
set_option maxHeartbeats 4000000 in
set_option maxRecDepth 100000 in
theorem feed_any (s : Nat → Nat) (hs : ∀ j, s j < 4294967296) (str : ByteArray) (hl : str.size ≤ 1000000) (w : World) :
    Calls Tryz.prog 139 #[.agg (tab 8 (stV s)).toArray, .string str] w fun e w' => e = .returned (.tuple #[.agg (tab 8 (stV (fedS str.data.toList s (str.size / 64)))).toArray, .string (str.extract (64 * (str.size / 64)) str.size)]) ∧ Below w.heap.size w w' := by
  go_enter Tryz.func139, Tryz.ntmps139
  go_wp2_with (with_reducible refine wpList_box_tab (o := ⟨some 2, _, _, _, _, _⟩) rfl 206 _ rfl 8 (stV s) rfl ?_)
  intro w1 hb1 hbel1 hsz1
  go_wp2_with (with_reducible refine wpList_alloc_blk (o := ⟨some 4, _, _, _, _, _⟩) rfl 206 rfl (.agg (tab 8 (stV fun _ => 0)).toArray) (by kernel_rfl) ?_)
  intro w2 hb2 hbel2 hsz2
  have hb12 := hb1.kept hbel2
  have hbel := kp_step hbel1 hbel2
  obtain ⟨g2, hg2⟩ : ∃ g, w.heap.size = g := ⟨_, rfl⟩
  obtain ⟨g4, hg4⟩ : ∃ g, w1.heap.size = g := ⟨_, rfl⟩
  rw [hg2] at hb12 hbel
  rw [hg4] at hb2
  simp only [hg2, hg4]
  have hg24 : g2 ≠ g4 := by omega
  have hle : g2 ≤ g4 := by omega
  have HG2 := Go.Lib.hid hg2
  clear hb1 hbel1 hbel2 hsz1 hsz2 hg2 hg4
  go_wp2_with fail
  go_loopw [1] (fun sv wr => ∃ (k : Nat) (q : ByteArray), 64 * k ≤ str.size ∧ sv = .string q ∧ Hid (q = str.extract (64 * k) str.size) ∧ q.size ≤ 1000000 ∧ Blk wr g2 206 (tab 8 (stV (fedS str.data.toList s k))) ∧ Blk wr g4 206 (tab 8 (stV fun _ => 0)) ∧ Below g2 w wr) (fun sv _ => strSz sv)
  case atStart => exact ⟨0, str, by omega, rfl, Go.Lib.hid (by rw [Nat.mul_zero]; apply ByteArray.ext; simp), hl, hb12, hb2, hbel⟩
  case round =>
    obtain ⟨k, q, hk, rfl, hq, hql, hbs, hb4, hbl⟩ := hrel
    clear hb12 hb2 hbel
    have hqs : q.size = str.size - 64 * k := by rw [hq.out]; simp
    have HB2R := Go.Lib.hid hbs; have HB4R := Go.Lib.hid hb4; have HBEL := Go.Lib.hid hbl
    by_cases h64 : 64 ≤ q.size
    · have hxs : (q.extract 64 q.size).size = q.size - 64 := by simp
      have hqn : q.extract 64 q.size = str.extract (64 * (k + 1)) str.size := by
        rw [hq.out]
        exact cut_next str k (by omega)
      have hqd : (q.extract 0 64).data.toList = (str.data.toList.drop (64 * k)).take 64 := by
        rw [hq.out]
        exact cut_head str k (by omega)
      have hst2 : fedS str.data.toList s (k + 1) = blockF (q.extract 0 64).data.toList (fedS str.data.toList s k) := by rw [hqd]; rfl
      have hbk : ∀ W : World, Calls Tryz.prog 146 #[.agg (tab 8 (stV (fedS str.data.toList s k))).toArray, .string (q.extract 0 64)] W fun e w' => e = .returned (.tuple #[.agg (tab 8 (stV (fedS str.data.toList s (k + 1)))).toArray, .int .i64 0]) ∧ Below W.heap.size W w' := fun W => by
        rw [hst2]
        exact Block_yes _ (fedS_lt _ _ hs k) (q.extract 0 64) (by simp; omega) W
      have hk2 : 64 * (k + 1) ≤ str.size := by omega
      have HBK := Go.Lib.hid hbk; have HQN := Go.Lib.hid hqn; have HXS := Go.Lib.hid hxs
      clear hqs hxs hqn hqd hst2 hbk hbs hb4 hbl
      generalize hst : fedS str.data.toList s k = st at *
      generalize hst2 : fedS str.data.toList s (k + 1) = st2 at *
      have HST2 := Go.Lib.hid hst2
      clear hst hst2
      go_wp2_with fail
      refine wp_region_inv2 (by kernel_rfl) (by kernel_rfl) (IFeed g2 g4 st st2 q wr) ?_ ?_ ?_
      · exact ⟨FrameI.refl _ _, ⟨(Below.refl _ _).drew, HB4R.out, fun _ => HB2R.out, absF⟩, absF, absF, absF, absF, absF, absF, absF, absF⟩
      · intro L a wx i o hI ho hL hd
        obtain ⟨hF, hW, h70, h0, h1, h2, h3, h4, h5, h6⟩ := hI
        have hsz : a.tmps.size = 20 := hF.size
        have hi : i < 8 := (Array.getElem?_eq_some_iff.1 ho).1
        obtain rfl | rfl | rfl | rfl | rfl | rfl | rfl | rfl : i = 0 ∨ i = 1 ∨ i = 2 ∨ i = 3 ∨ i = 4 ∨ i = 5 ∨ i = 6 ∨ i = 7 := by omega
        all_goals
          have ho' := ho
          simp only [List.getElem?_toArray, List.getElem?_cons_zero, List.getElem?_cons_succ, Option.some.injEq] at ho'
          subst ho'
        · have hbs := hW.2.2.1 (by cases h7 : L 7 with | false => rfl | true => exact absurd (h70 h7) (by rw [hL]; decide))
          refine wpOp_of ho rfl (wp_load_tab 206 _ rfl g2 206 (hF.keep 2 (by decide)) 8 (stV st) _ hbs Tryz.underlying206 rfl (by kernel_rfl) ?_)
          exact ⟨hF.put (by decide) _, (by rw [setL_ne (by decide)]; exact hW), imp_mono h70 (by decide), (fun _ => slot_same (by omega)), (imp_set h1 (by decide) (fun h => slot_other h (by decide))), (imp_set h2 (by decide) (fun h => slot_other h (by decide))), (imp_set h3 (by decide) (fun h => slot_other h (by decide))), (imp_set h4 (by decide) (fun h => slot_other h (by decide))), (imp_set h5 (by decide) (fun h => slot_other h (by decide))), (imp_set h6 (by decide) (fun h => slot_other h (by decide)))⟩
        · refine wpOp_of ho rfl (wp_move _ rfl ?_)
          rw [show a.eval (.tmp 1) = .string q from hF.keep 1 (by decide)]
          exact ⟨hF.put (by decide) _, (by rw [setL_ne (by decide)]; exact hW), imp_mono h70 (by decide), (imp_set h0 (by decide) (fun h => slot_other h (by decide))), (fun _ => slot_same (by omega)), (imp_set h2 (by decide) (fun h => slot_other h (by decide))), (imp_set h3 (by decide) (fun h => slot_other h (by decide))), (imp_set h4 (by decide) (fun h => slot_other h (by decide))), (imp_set h5 (by decide) (fun h => slot_other h (by decide))), (imp_set h6 (by decide) (fun h => slot_other h (by decide)))⟩
        · have d1 := h1 (hd { on := 1, ground := Ground.data } (by simp) rfl)
          refine wpOp_of ho rfl (wp_cut64 _ _ rfl Tryz.underlying9 q d1 (by assumption) ?_)
          exact ⟨hF.put (by decide) _, (by rw [setL_ne (by decide)]; exact hW), imp_mono h70 (by decide), (imp_set h0 (by decide) (fun h => slot_other h (by decide))), (imp_set h1 (by decide) (fun h => slot_other h (by decide))), (fun _ => slot_same (by omega)), (imp_set h3 (by decide) (fun h => slot_other h (by decide))), (imp_set h4 (by decide) (fun h => slot_other h (by decide))), (imp_set h5 (by decide) (fun h => slot_other h (by decide))), (imp_set h6 (by decide) (fun h => slot_other h (by decide)))⟩
        · have d0 := h0 (hd { on := 0, ground := Ground.data } (by simp) rfl)
          have d2 := h2 (hd { on := 2, ground := Ground.data } (by simp) rfl)
          refine wpOp_of ho rfl (wp_call 146 _ _ rfl Tryz.f146 Tryz.func146 (by kernel_rfl) (by kernel_rfl) #[.agg (tab 8 (stV st)).toArray, .string (q.extract 0 64)] ?_ ((HBK.out _).mono ?_))
          · simp only [List.map_toArray, List.map_cons, List.map_nil]
            rw [show a.eval (.tmp 10) = .agg (tab 8 (stV st)).toArray from d0, show a.eval (.tmp 12) = .string (q.extract 0 64) from d2]
          rintro e w3 ⟨rfl, hb3⟩
          refine ⟨_, rfl, ?_⟩
          exact ⟨hF.put (by decide) _, (by rw [setL_ne (by decide)]; exact hW.kept hb3), imp_mono h70 (by decide), (imp_set h0 (by decide) (fun h => slot_other h (by decide))), (imp_set h1 (by decide) (fun h => slot_other h (by decide))), (imp_set h2 (by decide) (fun h => slot_other h (by decide))), (fun _ => slot_same (by omega)), (imp_set h4 (by decide) (fun h => slot_other h (by decide))), (imp_set h5 (by decide) (fun h => slot_other h (by decide))), (imp_set h6 (by decide) (fun h => slot_other h (by decide)))⟩
        · have d3 := h3 (hd { on := 3, ground := Ground.data } (by simp) rfl)
          refine wpOp_of ho rfl (wp_move _ rfl ?_)
          rw [show a.eval (.tmp 13) = _ from d3]
          exact ⟨hF.put (by decide) _, (by rw [setL_ne (by decide)]; exact hW), imp_mono h70 (by decide), (imp_set h0 (by decide) (fun h => slot_other h (by decide))), (imp_set h1 (by decide) (fun h => slot_other h (by decide))), (imp_set h2 (by decide) (fun h => slot_other h (by decide))), (imp_set h3 (by decide) (fun h => slot_other h (by decide))), (fun _ => slot_same (by omega)), (imp_set h5 (by decide) (fun h => slot_other h (by decide))), (imp_set h6 (by decide) (fun h => slot_other h (by decide)))⟩
        · have d4 := h4 (hd { on := 4, ground := Ground.data } (by simp) rfl)
          refine wpOp_of ho rfl (wp_extract _ 0 rfl _ d4 _ rfl ?_)
          exact ⟨hF.put (by decide) _, (by rw [setL_ne (by decide)]; exact hW), imp_mono h70 (by decide), (imp_set h0 (by decide) (fun h => slot_other h (by decide))), (imp_set h1 (by decide) (fun h => slot_other h (by decide))), (imp_set h2 (by decide) (fun h => slot_other h (by decide))), (imp_set h3 (by decide) (fun h => slot_other h (by decide))), (imp_set h4 (by decide) (fun h => slot_other h (by decide))), (fun _ => slot_same (by omega)), (imp_set h6 (by decide) (fun h => slot_other h (by decide)))⟩
        · have d4 := h4 (hd { on := 4, ground := Ground.data } (by simp) rfl)
          refine wpOp_of ho rfl (wp_extract _ 1 rfl _ d4 _ rfl ?_)
          exact ⟨hF.put (by decide) _, (by rw [setL_ne (by decide)]; exact hW), imp_mono h70 (by decide), (imp_set h0 (by decide) (fun h => slot_other h (by decide))), (imp_set h1 (by decide) (fun h => slot_other h (by decide))), (imp_set h2 (by decide) (fun h => slot_other h (by decide))), (imp_set h3 (by decide) (fun h => slot_other h (by decide))), (imp_set h4 (by decide) (fun h => slot_other h (by decide))), (imp_set h5 (by decide) (fun h => slot_other h (by decide))), (fun _ => slot_same (by omega))⟩
        · have d5 := h5 (hd { on := 5, ground := Ground.data } (by simp) rfl)
          have d0 : L 0 = true := hd { on := 0, ground := Ground.phase } (by simp) rfl
          refine wpOp_of ho rfl (wp_store_tab 206 (.tmp 2) (.tmp 14) rfl g2 206 8 (stV st2) (stV st) (hF.keep 2 (by decide)) d5 (hW.2.2.1 hL) (by kernel_rfl) (fun _ => rfl) ?_)
          intro w3 hb3 ho3
          exact ⟨hF, (by rw [setL_eq]; exact hW.fill hb3 ho3 hg24), (fun _ => by rw [setL_ne (by decide)]; exact d0), (imp_set h0 (by decide) id), (imp_set h1 (by decide) id), (imp_set h2 (by decide) id), (imp_set h3 (by decide) id), (imp_set h4 (by decide) id), (imp_set h5 (by decide) id), (imp_set h6 (by decide) id)⟩
      · intro L a wx hI hall
        obtain ⟨hF, hW, h70, h0, h1, h2, h3, h4, h5, h6⟩ := hI
        have e0 := h0 (hall 0 (by decide))
        have e1 := h1 (hall 1 (by decide))
        have e2 := h2 (hall 2 (by decide))
        have e3 := h3 (hall 3 (by decide))
        have e4 := h4 (hall 4 (by decide))
        have e5 := h5 (hall 5 (by decide))
        have e6 := h6 (hall 6 (by decide))
        have t7 : L 7 = true := hall 7 (by decide)
        have hA := hF.eq [(10, .agg (tab 8 (stV st)).toArray), (11, .string q), (12, .string (q.extract 0 64)), (13, .tuple #[.agg (tab 8 (stV st2)).toArray, .int .i64 0]), (9, .tuple #[.agg (tab 8 (stV st2)).toArray, .int .i64 0]), (14, .agg (tab 8 (stV st2)).toArray), (15, .int .i64 0)]
          (by
            intro x hx
            simp only [List.mem_cons, List.not_mem_nil, or_false] at hx
            rcases hx with rfl | rfl | rfl | rfl | rfl | rfl | rfl
            · exact ⟨show (10 : Nat) < 20 by decide, e0⟩
            · exact ⟨show (11 : Nat) < 20 by decide, e1⟩
            · exact ⟨show (12 : Nat) < 20 by decide, e2⟩
            · exact ⟨show (13 : Nat) < 20 by decide, e3⟩
            · exact ⟨show (9 : Nat) < 20 by decide, e4⟩
            · exact ⟨show (14 : Nat) < 20 by decide, e5⟩
            · exact ⟨show (15 : Nat) < 20 by decide, e6⟩)
          (by
            intro s hs
            simp only [List.mem_cons, List.not_mem_nil, or_false] at hs
            rcases hs with rfl | rfl | rfl | rfl | rfl | rfl | rfl <;> rfl)
        rw [hA]
        simp only [putAll, List.setIfInBounds_toArray, List.set_cons_zero, List.set_cons_succ]
        clear hA hF hall h0 h1 h2 h3 h4 h5 h6 e0 e1 e2 e3 e4 e5 e6
        obtain ⟨k1, k2, _, k3⟩ := hW
        have hb2n := k3 (by rw [t7])
        have HB2N := Go.Lib.hid hb2n; have HB4N := Go.Lib.hid k2; have HBLN := Go.Lib.hid k1
        clear hb2n k1 k2 k3 h70 t7
        go_wp2_with fail
        go_roundw
        case rel => exact ⟨k + 1, q.extract 64 q.size, by omega, by simp, HQN.out, by rw [HXS.out]; omega, by rw [HST2.out]; exact HB2N.out, HB4N.out, HBEL.out.trans HBLN.out⟩
        case measure => rw [show strSz (.string q) = q.size from rfl]; simp [strSz]; omega
    · have hke : k = str.size / 64 := by omega
      clear hqs
      go_wp2_with (first
        | (with_reducible refine wpList_load_tab (o := ⟨some 18, _, _, _, _, _⟩) rfl 206 _ rfl g2 206 rfl 8 _ _ hbs Tryz.underlying206 rfl (by kernel_rfl) ?_)
        | (with_reducible refine wpList_store_tab (o := ⟨none, .store 206 (.tmp 4) (.tmp 18), _, _, _, _⟩) rfl 206 _ _ rfl g4 206 8 _ _ rfl rfl hb4 (by kernel_rfl) (fun _ => rfl) ?_))
      intro w4 hb5 ho4
      go_wp2_with fail
      refine bodyPost_ret (results_cell2_tab rfl _ _ g4 206 8 _ _ _ rfl rfl hb5 Tryz.underlying206 rfl (by kernel_rfl)) rfl ⟨by rw [hq.out, hke]; rfl, ?_⟩
      rw [HG2.out]
      exact hbl.trans (ho4.below hle)
end Go.Proofs.YtlmefcepdadfjaaGreat
/- The walk over the package's New. -/
namespace Go.Proofs.YtlmefcepdadfjaaGreat
open Go.RowKit

def hV (fv : Value) (st : Nat → Nat) (r : ByteArray) (n : Nat) : Nat → Value := fun j => if j < 8 then .int .u32 (st j : Nat) else if j = 8 then .string r else if j = 9 then .int .i64 (n : Nat) else fv
def cloV (c : Nat) : Value := .func (.func 138) #[] #[.pointer (some ⟨c, 0, none⟩)]
theorem hV_take (fv : Value) (st : Nat → Nat) (r : ByteArray) (n : Nat) : ((tab 11 (hV fv st r n)).drop 0).take 8 = tab 8 (stV st) := rfl
theorem hV_put (fv : Value) (st st2 : Nat → Nat) (r : ByteArray) (n : Nat) : (tab 11 (hV fv st r n)).take 0 ++ (tab 8 (stV st2)).toArray.toList ++ (tab 11 (hV fv st r n)).drop (0 + (tab 8 (stV st2)).toArray.size) = tab 11 (hV fv st2 r n) := rfl
theorem hV_set8 (fv : Value) (st : Nat → Nat) (r r2 : ByteArray) (n : Nat) : (tab 11 (hV fv st r n)).set 8 (.string r2) = tab 11 (hV fv st r2 n) := rfl
theorem hV_set9 (fv : Value) (st : Nat → Nat) (r : ByteArray) (n n2 : Nat) : (tab 11 (hV fv st r n)).set 9 (.int .i64 (n2 : Nat)) = tab 11 (hV fv st r n2) := rfl
theorem hV_set10 (fv fv2 : Value) (st : Nat → Nat) (r : ByteArray) (n : Nat) : (tab 11 (hV fv st r n)).set 10 fv2 = tab 11 (hV fv2 st r n) := rfl
theorem hash_built (w : World) : (Instr.build 209 #[(0, .agg (tab 8 (stV hF)).toArray)]).run Tryz.prog w = .ok (.agg (tab 11 (hV .nilFunc hF ⟨#[]⟩ 0)).toArray) w := by kernel_rfl
theorem hash_field (w : World) (p i o : Nat) (h : (i, o) ∈ [(0, 0), (1, 8), (2, 9), (3, 10)]) : (Instr.fieldAt 209 (.pointer (some ⟨p, 0, none⟩)) i).run Tryz.prog w = .ok (.pointer (some ⟨p, o, none⟩)) w := by
  simp only [List.mem_cons, Prod.mk.injEq, List.not_mem_nil, or_false] at h
  rcases h with ⟨rfl, rfl⟩ | ⟨rfl, rfl⟩ | ⟨rfl, rfl⟩ | ⟨rfl, rfl⟩ <;> simp [Instr.fieldAt, run_underlying Tryz.underlying209, Instr.sureAddr, fieldPlace, Addr.add_lit]
set_option maxHeartbeats 4000000 in
set_option maxRecDepth 100000 in
theorem New_any (w : World) : Calls Tryz.prog 116 #[] w fun e w' => ∃ p c, e = .returned (.pointer (some ⟨p, 0, none⟩)) ∧ Blk w' p 209 (tab 11 (hV (cloV c) hF ⟨#[]⟩ 0)) ∧ Blk w' c 190 [.pointer (some ⟨p, 0, none⟩)] ∧ p < c ∧ w.heap.size ≤ p ∧ Below w.heap.size w w' := by
  go_enter Tryz.func116, Tryz.ntmps116
  have hbd : ∀ w, (Instr.build 209 #[(0, .agg (tab 8 (stV hF)).toArray)]).run Tryz.prog w = .ok (.agg (tab 11 (hV .nilFunc hF ⟨#[]⟩ 0)).toArray) w := hash_built
  go_wp2_with fail
  refine (Start_any _).mono ?_
  rintro e w1 ⟨rfl, hb1⟩
  go_wp2_with (with_reducible refine wpList_box_tab (o := ⟨some 4, _, _, _, _, _⟩) rfl 209 _ rfl 11 (hV .nilFunc hF ⟨#[]⟩ 0) rfl ?_)
  intro w2 hb2 hbel2 hsz2
  go_wp2_with (with_reducible refine wpList_alloc_blk (o := ⟨some 1, _, _, _, _, _⟩) rfl 190 rfl (.pointer none) (by kernel_rfl) ?_)
  intro w3 hb3 hbel3 hsz3
  obtain ⟨p, hp⟩ : ∃ g, w1.heap.size = g := ⟨_, rfl⟩
  obtain ⟨c, hc⟩ : ∃ g, w2.heap.size = g := ⟨_, rfl⟩
  have hb23 := hb2.kept hbel3
  have hbw := kp_step (kp_step hb1 hbel2) hbel3
  have hwp : w.heap.size ≤ p := by have := hb1.size; omega
  have hpc : p < c := by omega
  rw [hp] at hb23
  rw [hc] at hb3
  simp only [hp, hc]
  have HB23 := Go.Lib.hid hb23; have HBW := Go.Lib.hid hbw
  clear hb1 hb2 hbel2 hsz2 hbel3 hsz3 hp hc hb23 hbw
  go_wp2_with (with_reducible refine wpList_store_cell (o := ⟨none, .store 190 _ _, _, _, _, _⟩) rfl 190 _ _ rfl c 0 190 (.pointer (some ⟨p, 0, none⟩)) rfl rfl [.pointer none] hb3 (by kernel_rfl) (by decide) rfl rfl ?_)
  intro w4 hb4 ho4
  have hb44 : Blk w4 c 190 [.pointer (some ⟨p, 0, none⟩)] := hb4
  have hbp := ho4.other HB23.out (by omega)
  have hcc : w4.cell? ⟨c, 0, none⟩ = some (.pointer (some ⟨p, 0, none⟩)) := by rw [hb44.cell]; rfl
  have HB44 := Go.Lib.hid hb44
  clear hb3 hb4 hb44
  have hfld : (Instr.fieldAt 209 (.pointer (some ⟨p, 0, none⟩)) 3).run Tryz.prog w4 = .ok (.pointer (some ⟨p, 10, none⟩)) w4 := hash_field w4 p 3 10 (by simp)
  go_wp2_with (with_reducible refine wpList_store_cell (o := ⟨none, .store _ (.tmp 8) _, _, _, _, _⟩) rfl _ _ _ rfl p 10 209 (cloV c) rfl rfl (tab 11 (hV .nilFunc hF ⟨#[]⟩ 0)) hbp (by kernel_rfl) (by rw [tab_length]; decide) rfl rfl ?_)
  intro w5 hb5 ho5
  rw [hV_set10] at hb5
  have hb45 := ho5.other HB44.out (by omega)
  have hcc5 : w5.cell? ⟨c, 0, none⟩ = some (.pointer (some ⟨p, 0, none⟩)) := by rw [hb45.cell]; rfl
  clear hbp hcc
  go_wp2_with fail
  refine bodyPost_ret (v := .pointer (some ⟨p, 0, none⟩)) (by simp [results, Tryz.f116]) rfl ⟨p, c, rfl, hb5, hb45, hpc, hwp, ?_⟩
  exact (HBW.out.trans (ho4.below (by omega))).trans (ho5.below hwp)
end Go.Proofs.YtlmefcepdadfjaaGreat

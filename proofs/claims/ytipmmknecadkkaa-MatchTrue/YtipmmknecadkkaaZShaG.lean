/- Plain: what stands behind a text. The walk over the package's Pad. -/
import Derived.Test.YtipmmknecadkkaaZShaF
import Derived.Test.YtipmmknecadkkaaZShelf
namespace Go.Proofs.Ytipmmknecadkkaa
open Go.RowKit

/-- The length in bits, eight bytes, the first one at place 0. -/
def lenB (n j : Nat) : UInt8 := UInt8.ofNat (n * 8 / 256 ^ (7 - j))
/-- How many noughts. -/
def zerosN (n : Nat) : Nat := (64 - (n % 64 + 9) % 64) % 64
def padL (n : Nat) : List UInt8 := [128] ++ List.replicate (zerosN n) 0 ++ tab 8 (lenB n)
def padB (n : Nat) : ByteArray := ⟨(padL n).toArray⟩
theorem padB_size (n : Nat) : (padB n).size = 9 + zerosN n := by
  show (padL n).toArray.size = _
  simp [padL, tab_length]; omega
theorem pad_full (n : Nat) : (n + (padB n).size) % 64 = 0 := by
  rw [padB_size]; unfold zerosN; omega
theorem zeros_lt (n : Nat) : zerosN n < 64 := Nat.mod_lt _ (by omega)
theorem repeat_zero (c : Nat) : Go.Lib.repeatL [0] c = List.replicate c (0 : UInt8) := by
  induction c with
  | zero => rfl
  | succ c ih => simp [Go.Lib.repeatL, ih, List.replicate_succ]
theorem run_string_blk' {P : Program} (w : World) (src dst e : TypeId) (hs : P.underlying src = some (.slice e)) (he : P.underlying e = some (.int .u8)) (hd : P.underlying dst = some .string)
    (g cap n : Nat) (l : List UInt8) (hn : l.length = n) (hb : Blk w g e (l.map fun b => .int .u8 (b.toNat : Int))) : (convert src dst (.slice (some ⟨g, 0, none⟩) n cap)).run P w = .ok (.string ⟨l.toArray⟩) w :=
  run_string_blk w src dst e hs he hd g cap n l hn (fun j hj => by rw [hb.cell]; simp [hj])
theorem wp_string_blk {P : Program} {o : Oper} {a : Act} {w : World} {K : Act → World → Prop} {Q : Exit → Act → World → Prop} (src dst e : TypeId) (x : Operand) (ho : o.op = .convert src dst x) (hs : P.underlying src = some (.slice e)) (he : P.underlying e = some (.int .u8)) (hd : P.underlying dst = some .string)
    (g cap n : Nat) (l : List UInt8) (hx : a.eval x = .slice (some ⟨g, 0, none⟩) n cap) (hn : l.length = n) (hb : Blk w g e (l.map fun b => .int .u8 (b.toNat : Int))) (h : K (a.put o.dst (.string ⟨l.toArray⟩)) w) : o.wp P a w K Q := by
  unfold Oper.wp execOp
  simp only [ho, hx, Sem.run_bind, Sem.run_pure, run_string_blk' w src dst e hs he hd g cap n l hn hb, Result.andThen_ok]
  exact h
theorem wp_add_str {P : Program} {o : Oper} {a : Act} {w : World} {K : Act → World → Prop} {Q : Exit → Act → World → Prop} (t t2 : TypeId) (x y : Operand) (ho : o.op = .binOp .add t x y t2) (hu : P.underlying t = some .string) (p q : ByteArray) (hx : a.eval x = .string p) (hy : a.eval y = .string q) (hs : p.size + q.size ≤ 9223372036854775807)
    (h : K (a.put o.dst (.string (p ++ q))) w) : o.wp P a w K Q := by
  unfold Oper.wp execOp
  simp [ho, hx, hy, binOp, run_underlying hu, eqGuard, run_string_add_sum w p q hs]
  exact h
theorem ba_cat (p q : List UInt8) : (⟨p.toArray⟩ : ByteArray) ++ ⟨q.toArray⟩ = ⟨(p ++ q).toArray⟩ := by
  apply ByteArray.ext; simp
theorem wp_assign {P : Program} {o : Oper} {a : Act} {w : World} {K : Act → World → Prop} {Q : Exit → Act → World → Prop} (x : Operand) (ho : o.op = .assign x) (h : K (a.put o.dst (a.eval x)) w) : o.wp P a w K Q := by
  unfold Oper.wp execOp
  simp only [ho, Sem.run_pure, Oper.upon, Result.andThen_ok, Sem.run_bind]
  exact h
def strB (l : List UInt8) : Value := .string ⟨l.toArray⟩
/-- In the midst of Pad's last region. -/
def IPad (n g : Nat) (w0 : World) (A : Array Value) (L : Nat → Bool) (a : Act) (w : World) : Prop :=
  FrameI A [34, 35, 36, 37, 38, 39, 40, 41, 2, 3] a ∧ Below w0.heap.size w0 w ∧ Blk w g 5 ((tab 8 (lenB n)).map fun b => .int .u8 (b.toNat : Int)) ∧
  (L 0 = true → ∃ q, a.tmps.getD 34 undef = .slice (some ⟨q, 0, none⟩) 1 1 ∧ Blk w q 5 (([128] : List UInt8).map fun b => .int .u8 (b.toNat : Int))) ∧
  (L 1 = true → a.tmps.getD 35 undef = strB [128]) ∧ (L 2 = true → a.tmps.getD 36 undef = .int .i64 (zerosN n : Nat)) ∧ (L 3 = true → a.tmps.getD 37 undef = strB (List.replicate (zerosN n) 0)) ∧
  (L 4 = true → a.tmps.getD 38 undef = strB ([128] ++ List.replicate (zerosN n) 0)) ∧ (L 5 = true → a.tmps.getD 39 undef = .slice (some ⟨g, 0, none⟩) 8 8) ∧ (L 6 = true → a.tmps.getD 40 undef = strB (tab 8 (lenB n))) ∧
  (L 7 = true → a.tmps.getD 41 undef = strB (padL n)) ∧ (L 8 = true → a.tmps.getD 2 undef = strB (padL n)) ∧ (L 9 = true → a.tmps.getD 3 undef = .int .i64 0)
set_option maxHeartbeats 4000000 in
set_option maxRecDepth 100000 in
theorem Pad_any (n : Nat) (hn : n ≤ 1099511627776) (w : World) :
    Calls Try.prog 42 #[.int .i64 (n : Nat)] w fun e w' => e = .returned (.tuple #[.string (padB n), .int .i64 0]) ∧ Below w.heap.size w w' := by
  go_enter Try.func42, Try.ntmps42
  go_wp2_with (with_reducible refine wpList_make_blk (o := ⟨some 19, _, _, _, _, _⟩) _ rfl _ _ 78 rfl 5 (.int .u8 0) 1 Try.underlying78 (by kernel_rfl) rfl 8 8 rfl rfl (by omega) (by omega) (by unfold maxLen; omega) ?_)
  intro w1 hb1 hbel1 hsz1
  obtain ⟨g, hg⟩ : ∃ g, w.heap.size = g := ⟨_, rfl⟩
  have HG := Go.Lib.hid hg
  rw [hg] at hb1 hbel1 hsz1
  simp only [hg]
  clear hg
  have hz : -(((n : Int) % 64 + 1 + 8) % 64) % 64 = ((zerosN n : Nat) : Int) := by unfold zerosN; omega
  have HZ := Go.Lib.hid hz
  go_wp2_with fail
  simp only [HZ.out]
  clear hz
  have hzl := zeros_lt n
  generalize hzz : zerosN n = z at *
  have HZZ := Go.Lib.hid hzz
  clear hzz
  go_loopw [7, 8] (fun i sz wr => ∃ q : Nat, q ≤ 8 ∧ Hid (i = .int .i64 ((q : Int) - 1)) ∧ sz = .int .u64 ((n * 8 / 256 ^ (8 - q) : Nat)) ∧ Blk wr g 5 (tab 8 (fun j => if q ≤ j then .int .u8 ((lenB n j).toNat : Int) else .int .u8 0)) ∧ Below g w wr) (fun i _ _ => (intOf i + 1).toNat)
  case atStart => exact ⟨8, by omega, Go.Lib.hid (by rfl), by simp, hb1.congr (tab_congr fun j hj => by rw [if_neg (by omega)]), hbel1⟩
  case round =>
    obtain ⟨q, hq, hi, rfl, hbt, hbel⟩ := hrel
    clear hb1 hbel1
    have HBT := Go.Lib.hid hbt; have HBEL := Go.Lib.hid hbel
    rcases q with _ | p
    · obtain rfl := hi.out
      rw [show (((0 : Nat) : Int) - 1) = -1 by omega]
      have hfin : Blk wr g 5 ((tab 8 (lenB n)).map fun b => .int .u8 (b.toNat : Int)) := hbt.congr (by rw [tab_map]; exact tab_congr fun j hj => if_pos (Nat.zero_le _))
      clear hbt hbel
      go_wp2_with fail
      refine wp_region_inv2 (by kernel_rfl) (by kernel_rfl) (IPad n g wr) ?_ ?_ ?_
      · exact ⟨FrameI.refl _ _, (Below.refl _ _).drew, hfin, absF, absF, absF, absF, absF, absF, absF, absF, absF, absF⟩
      · intro L a wx i o hI ho hL hd
        obtain ⟨hF, hbw, hbs, h0, h1, h2, h3, h4, h5, h6, h7, h8, h9⟩ := hI
        have hsz : a.tmps.size = 42 := hF.size
        have hi : i < 10 := (Array.getElem?_eq_some_iff.1 ho).1
        obtain rfl | rfl | rfl | rfl | rfl | rfl | rfl | rfl | rfl | rfl : i = 0 ∨ i = 1 ∨ i = 2 ∨ i = 3 ∨ i = 4 ∨ i = 5 ∨ i = 6 ∨ i = 7 ∨ i = 8 ∨ i = 9 := by omega
        all_goals
          have ho' := ho
          simp only [List.getElem?_toArray, List.getElem?_cons_zero, List.getElem?_cons_succ, Option.some.injEq] at ho'
          subst ho'
        · refine wpOp_of ho rfl ?_
          go_simp
          exact ⟨hF.put (by decide) _, kp_alloc hbw, hbs.alloc _, (fun _ => ⟨wx.heap.size, slot_same (by omega), Blk.new wx _ _⟩), (imp_set h1 (by decide) (fun h => slot_other h (by decide))), (imp_set h2 (by decide) (fun h => slot_other h (by decide))), (imp_set h3 (by decide) (fun h => slot_other h (by decide))), (imp_set h4 (by decide) (fun h => slot_other h (by decide))), (imp_set h5 (by decide) (fun h => slot_other h (by decide))), (imp_set h6 (by decide) (fun h => slot_other h (by decide))), (imp_set h7 (by decide) (fun h => slot_other h (by decide))), (imp_set h8 (by decide) (fun h => slot_other h (by decide))), (imp_set h9 (by decide) (fun h => slot_other h (by decide)))⟩
        · obtain ⟨q, e1, e2⟩ := h0 (hd { on := 0, ground := Ground.data } (by simp) rfl)
          refine wpOp_of ho rfl (wp_string_blk 78 9 5 _ rfl Try.underlying78 Try.underlying5 Try.underlying9 q 1 1 [128] e1 rfl e2 ?_)
          refine ⟨hF.put (by decide) _, hbw, hbs, (imp_set h0 (by decide) (fun h => h.imp fun q hq => ⟨slot_other hq.1 (by decide), hq.2⟩)), (fun _ => slot_same (by omega)), (imp_set h2 (by decide) (fun h => slot_other h (by decide))), (imp_set h3 (by decide) (fun h => slot_other h (by decide))), (imp_set h4 (by decide) (fun h => slot_other h (by decide))), (imp_set h5 (by decide) (fun h => slot_other h (by decide))), (imp_set h6 (by decide) (fun h => slot_other h (by decide))), (imp_set h7 (by decide) (fun h => slot_other h (by decide))), (imp_set h8 (by decide) (fun h => slot_other h (by decide))), (imp_set h9 (by decide) (fun h => slot_other h (by decide)))⟩
        · refine wpOp_of ho rfl (wp_move _ rfl ?_)
          rw [show a.eval (.tmp 5) = .int .i64 (zerosN n : Nat) by rw [HZZ.out]; exact hF.keep 5 (by decide)]
          refine ⟨hF.put (by decide) _, hbw, hbs, (imp_set h0 (by decide) (fun h => h.imp fun q hq => ⟨slot_other hq.1 (by decide), hq.2⟩)), (imp_set h1 (by decide) (fun h => slot_other h (by decide))), (fun _ => slot_same (by omega)), (imp_set h3 (by decide) (fun h => slot_other h (by decide))), (imp_set h4 (by decide) (fun h => slot_other h (by decide))), (imp_set h5 (by decide) (fun h => slot_other h (by decide))), (imp_set h6 (by decide) (fun h => slot_other h (by decide))), (imp_set h7 (by decide) (fun h => slot_other h (by decide))), (imp_set h8 (by decide) (fun h => slot_other h (by decide))), (imp_set h9 (by decide) (fun h => slot_other h (by decide)))⟩
        · have d2 := h2 (hd { on := 2, ground := Ground.data } (by simp) rfl)
          refine wpOp_of ho rfl (wp_call 44 _ _ rfl Try.f44 Try.func44 (by kernel_rfl) (by kernel_rfl) #[.string { data := #[0] }, .int .i64 (zerosN n : Nat)] ?_ ((Try.strings_Repeat { data := #[0] } (zerosN n) _ (by have := zeros_lt n; omega) (by have := zeros_lt n; show 1 * zerosN n ≤ _; omega)).mono ?_))
          · simp only [List.map_toArray, List.map_cons, List.map_nil]
            rw [show a.eval (.tmp 36) = .int .i64 (zerosN n : Nat) from d2]
            rfl
          rintro e w3 ⟨rfl, hb3⟩
          refine ⟨_, rfl, ?_⟩
          refine ⟨hF.put (by decide) _, (kp_step hbw hb3), (hbs.kept hb3), (imp_set h0 (by decide) (fun h => h.imp fun q hq => ⟨slot_other hq.1 (by decide), hq.2.kept hb3⟩)), (imp_set h1 (by decide) (fun h => slot_other h (by decide))), (imp_set h2 (by decide) (fun h => slot_other h (by decide))), (fun _ => (slot_same (by omega)).trans (by rw [strB, ← repeat_zero])), (imp_set h4 (by decide) (fun h => slot_other h (by decide))), (imp_set h5 (by decide) (fun h => slot_other h (by decide))), (imp_set h6 (by decide) (fun h => slot_other h (by decide))), (imp_set h7 (by decide) (fun h => slot_other h (by decide))), (imp_set h8 (by decide) (fun h => slot_other h (by decide))), (imp_set h9 (by decide) (fun h => slot_other h (by decide)))⟩
        · have d1 := h1 (hd { on := 1, ground := Ground.data } (by simp) rfl)
          have d3 := h3 (hd { on := 3, ground := Ground.data } (by simp) rfl)
          refine wpOp_of ho rfl (wp_add_str _ _ _ _ rfl Try.underlying9 ⟨([128] : List UInt8).toArray⟩ ⟨(List.replicate (zerosN n) 0).toArray⟩ d1 d3 (by have := zeros_lt n; show 1 + (List.replicate (zerosN n) (0 : UInt8)).toArray.size ≤ _; simp; omega) ?_)
          refine ⟨hF.put (by decide) _, hbw, hbs, (imp_set h0 (by decide) (fun h => h.imp fun q hq => ⟨slot_other hq.1 (by decide), hq.2⟩)), (imp_set h1 (by decide) (fun h => slot_other h (by decide))), (imp_set h2 (by decide) (fun h => slot_other h (by decide))), (imp_set h3 (by decide) (fun h => slot_other h (by decide))), (fun _ => (slot_same (by omega)).trans (congrArg Value.string (ba_cat _ _))), (imp_set h5 (by decide) (fun h => slot_other h (by decide))), (imp_set h6 (by decide) (fun h => slot_other h (by decide))), (imp_set h7 (by decide) (fun h => slot_other h (by decide))), (imp_set h8 (by decide) (fun h => slot_other h (by decide))), (imp_set h9 (by decide) (fun h => slot_other h (by decide)))⟩
        · refine wpOp_of ho rfl (wp_move _ rfl ?_)
          rw [show a.eval (.tmp 6) = .slice (some ⟨g, 0, none⟩) 8 8 from hF.keep 6 (by decide)]
          refine ⟨hF.put (by decide) _, hbw, hbs, (imp_set h0 (by decide) (fun h => h.imp fun q hq => ⟨slot_other hq.1 (by decide), hq.2⟩)), (imp_set h1 (by decide) (fun h => slot_other h (by decide))), (imp_set h2 (by decide) (fun h => slot_other h (by decide))), (imp_set h3 (by decide) (fun h => slot_other h (by decide))), (imp_set h4 (by decide) (fun h => slot_other h (by decide))), (fun _ => slot_same (by omega)), (imp_set h6 (by decide) (fun h => slot_other h (by decide))), (imp_set h7 (by decide) (fun h => slot_other h (by decide))), (imp_set h8 (by decide) (fun h => slot_other h (by decide))), (imp_set h9 (by decide) (fun h => slot_other h (by decide)))⟩
        · have d5 := h5 (hd { on := 5, ground := Ground.data } (by simp) rfl)
          refine wpOp_of ho rfl (wp_string_blk 78 9 5 _ rfl Try.underlying78 Try.underlying5 Try.underlying9 g 8 8 (tab 8 (lenB n)) d5 (tab_length _ _) hbs ?_)
          refine ⟨hF.put (by decide) _, hbw, hbs, (imp_set h0 (by decide) (fun h => h.imp fun q hq => ⟨slot_other hq.1 (by decide), hq.2⟩)), (imp_set h1 (by decide) (fun h => slot_other h (by decide))), (imp_set h2 (by decide) (fun h => slot_other h (by decide))), (imp_set h3 (by decide) (fun h => slot_other h (by decide))), (imp_set h4 (by decide) (fun h => slot_other h (by decide))), (imp_set h5 (by decide) (fun h => slot_other h (by decide))), (fun _ => slot_same (by omega)), (imp_set h7 (by decide) (fun h => slot_other h (by decide))), (imp_set h8 (by decide) (fun h => slot_other h (by decide))), (imp_set h9 (by decide) (fun h => slot_other h (by decide)))⟩
        · have d4 := h4 (hd { on := 4, ground := Ground.data } (by simp) rfl)
          have d6 := h6 (hd { on := 6, ground := Ground.data } (by simp) rfl)
          refine wpOp_of ho rfl (wp_add_str _ _ _ _ rfl Try.underlying9 ⟨([128] ++ List.replicate (zerosN n) 0 : List UInt8).toArray⟩ ⟨(tab 8 (lenB n)).toArray⟩ d4 d6 (by have := zeros_lt n; show ([128] ++ List.replicate (zerosN n) (0 : UInt8)).toArray.size + (tab 8 (lenB n)).toArray.size ≤ _; simp [tab_length]; omega) ?_)
          refine ⟨hF.put (by decide) _, hbw, hbs, (imp_set h0 (by decide) (fun h => h.imp fun q hq => ⟨slot_other hq.1 (by decide), hq.2⟩)), (imp_set h1 (by decide) (fun h => slot_other h (by decide))), (imp_set h2 (by decide) (fun h => slot_other h (by decide))), (imp_set h3 (by decide) (fun h => slot_other h (by decide))), (imp_set h4 (by decide) (fun h => slot_other h (by decide))), (imp_set h5 (by decide) (fun h => slot_other h (by decide))), (imp_set h6 (by decide) (fun h => slot_other h (by decide))), (fun _ => (slot_same (by omega)).trans (congrArg Value.string (ba_cat _ _))), (imp_set h8 (by decide) (fun h => slot_other h (by decide))), (imp_set h9 (by decide) (fun h => slot_other h (by decide)))⟩
        · have d7 := h7 (hd { on := 7, ground := Ground.data } (by simp) rfl)
          refine wpOp_of ho rfl (wp_assign _ rfl ?_)
          rw [show a.eval (.tmp 41) = strB (padL n) from d7]
          refine ⟨hF.put (by decide) _, hbw, hbs, (imp_set h0 (by decide) (fun h => h.imp fun q hq => ⟨slot_other hq.1 (by decide), hq.2⟩)), (imp_set h1 (by decide) (fun h => slot_other h (by decide))), (imp_set h2 (by decide) (fun h => slot_other h (by decide))), (imp_set h3 (by decide) (fun h => slot_other h (by decide))), (imp_set h4 (by decide) (fun h => slot_other h (by decide))), (imp_set h5 (by decide) (fun h => slot_other h (by decide))), (imp_set h6 (by decide) (fun h => slot_other h (by decide))), (imp_set h7 (by decide) (fun h => slot_other h (by decide))), (fun _ => slot_same (by omega)), (imp_set h9 (by decide) (fun h => slot_other h (by decide)))⟩
        · refine wpOp_of ho rfl (wp_assign _ rfl ?_)
          refine ⟨hF.put (by decide) _, hbw, hbs, (imp_set h0 (by decide) (fun h => h.imp fun q hq => ⟨slot_other hq.1 (by decide), hq.2⟩)), (imp_set h1 (by decide) (fun h => slot_other h (by decide))), (imp_set h2 (by decide) (fun h => slot_other h (by decide))), (imp_set h3 (by decide) (fun h => slot_other h (by decide))), (imp_set h4 (by decide) (fun h => slot_other h (by decide))), (imp_set h5 (by decide) (fun h => slot_other h (by decide))), (imp_set h6 (by decide) (fun h => slot_other h (by decide))), (imp_set h7 (by decide) (fun h => slot_other h (by decide))), (imp_set h8 (by decide) (fun h => slot_other h (by decide))), (fun _ => slot_same (by omega))⟩
      · intro L a wx hI hall
        obtain ⟨hF, hbw, hbs, h0, h1, h2, h3, h4, h5, h6, h7, h8, h9⟩ := hI
        obtain ⟨q, e34, _⟩ := h0 (hall 0 (by decide))
        have e35 := h1 (hall 1 (by decide)); have e36 := h2 (hall 2 (by decide)); have e37 := h3 (hall 3 (by decide)); have e38 := h4 (hall 4 (by decide)); have e39 := h5 (hall 5 (by decide)); have e40 := h6 (hall 6 (by decide)); have e41 := h7 (hall 7 (by decide))
        have e2 := h8 (hall 8 (by decide))
        have e3 := h9 (hall 9 (by decide))
        have hA := hF.eq [(34, .slice (some ⟨q, 0, none⟩) 1 1), (35, strB [128]), (36, .int .i64 (zerosN n : Nat)), (37, strB (List.replicate (zerosN n) 0)), (38, strB ([128] ++ List.replicate (zerosN n) 0)), (39, .slice (some ⟨g, 0, none⟩) 8 8), (40, strB (tab 8 (lenB n))), (41, strB (padL n)), (2, strB (padL n)), (3, .int .i64 0)]
          (by
            intro x hx
            simp only [List.mem_cons, List.not_mem_nil, or_false] at hx
            rcases hx with rfl | rfl | rfl | rfl | rfl | rfl | rfl | rfl | rfl | rfl
            · exact ⟨show (34 : Nat) < 42 by decide, e34⟩
            · exact ⟨show (35 : Nat) < 42 by decide, e35⟩
            · exact ⟨show (36 : Nat) < 42 by decide, e36⟩
            · exact ⟨show (37 : Nat) < 42 by decide, e37⟩
            · exact ⟨show (38 : Nat) < 42 by decide, e38⟩
            · exact ⟨show (39 : Nat) < 42 by decide, e39⟩
            · exact ⟨show (40 : Nat) < 42 by decide, e40⟩
            · exact ⟨show (41 : Nat) < 42 by decide, e41⟩
            · exact ⟨show (2 : Nat) < 42 by decide, e2⟩
            · exact ⟨show (3 : Nat) < 42 by decide, e3⟩)
          (by
            intro s hs
            simp only [List.mem_cons, List.not_mem_nil, or_false] at hs
            rcases hs with rfl | rfl | rfl | rfl | rfl | rfl | rfl | rfl | rfl | rfl <;> rfl)
        rw [hA]
        simp only [putAll, List.setIfInBounds_toArray, List.set_cons_zero, List.set_cons_succ]
        have hend : Below w.heap.size w wx := by
          rw [HG.out]
          exact HBEL.out.trans (hbw.mono (by have := HBEL.out.size; have := HG.out; omega))
        have HEND := Go.Lib.hid hend
        clear hend hA e34 e35 e36 e37 e38 e39 e40 e41 e2 e3 h0 h1 h2 h3 h4 h5 h6 h7 h8 h9 hbs hbw hF hall
        go_wp2_with fail
        go_ret2
        exact ⟨rfl, HEND.out⟩
    · obtain rfl := hi.out
      rw [show (((p + 1 : Nat) : Int) - 1) = (p : Int) by omega]
      have cP := hbt.at p (by omega)
      rw [if_neg (by omega)] at cP
      have fP := hbt.freeAt p (by omega)
      obtain ⟨S, hS⟩ : ∃ S, n * 8 / 256 ^ (8 - (p + 1)) = S := ⟨_, rfl⟩
      have hS2 : n * 8 / 256 ^ (8 - p) = S / 256 := by
        rw [show 8 - p = (8 - (p + 1)) + 1 by omega, Nat.pow_succ, ← Nat.div_div_eq_div_mul, hS]
      have hL : (lenB n p).toNat = S % 256 := by
        unfold lenB
        rw [show 7 - p = 8 - (p + 1) by omega, hS]
        simp
      have hSl : S ≤ n * 8 := by rw [← hS]; exact Nat.div_le_self _ _
      have hset : ∀ u : Value, u = .int .u8 ((S % 256 : Nat) : Int) → Blk (wr.setCell ⟨g, p, none⟩ u) g 5 (tab 8 (fun j => if p ≤ j then .int .u8 ((lenB n j).toNat : Int) else .int .u8 0)) := fun u hu => hbt.setTab p u _ (by rw [if_pos (Nat.le_refl _), hL, hu]) (fun i _ hi => by
        by_cases h : p + 1 ≤ i
        · rw [if_pos h, if_pos (by omega)]
        · rw [if_neg h, if_neg (by omega)])
      have HSET := Go.Lib.hid hset; have HS := Go.Lib.hid hS; have HS2 := Go.Lib.hid hS2
      have i0 : (0 : Int) ≤ (p : Int) := by omega
      have i1 : (p : Int) < 8 := by omega
      rw [hS]
      clear hset hS hS2 hL hbt hbel
      go_wp2_with fail
      go_roundw
      case rel =>
        refine ⟨p, by omega, Go.Lib.hid (by go_num), by rw [HS2.out]; go_num, HSET.out _ ?_, HBEL.out.trans ((Only.setCell (g := g) p _).below (Nat.le_refl _))⟩
        congr 1
      case measure => simp [intOf]
end Go.Proofs.Ytipmmknecadkkaa

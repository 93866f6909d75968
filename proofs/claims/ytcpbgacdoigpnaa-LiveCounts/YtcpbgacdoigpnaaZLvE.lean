/- Layer 20: a table that nobody made; few; the law's awake; LiveNobody. -/
import Derived.Test.YtcpbgacdoigpnaaZLvD
import Derived.Test.YtcpbgacdoigpnaaZBoxD
namespace Go.Proofs.Ytcpbgacdoigpnaa
open Go.RowKit

theorem Rd.take {w : World} {ao : Option Addr} {cs : List Value} (h : Rd w ao cs) (m : Nat) : Rd w ao (cs.take m) := by
  have := h.sub (ao' := ao) 0 m (fun _ => by cases ao with | none => rfl | some a => simp [Addr.add])
  rw [List.drop_zero] at this
  exact this
theorem open_mn2 {w : World} {d : Nat} {cs : List Value} (h : FitR Try.prog w (d + 1) [.int .u32, .slice 65] cs) : ∃ (id : Int) (ao : Option Addr) (n cap : Nat), Value.agg cs.toArray = mnV id ao n cap ∧ n ≤ cap ∧ n ≤ maxLen ∧ ∃ l : List En, l.length = min n 1000 ∧ Rd w ao (enE.fl l) := by
  obtain ⟨hl, hf⟩ := h
  match cs, hl with
  | [x, y], _ =>
    obtain ⟨a, rfl, _⟩ := fitK_int (hf 0 _ _ rfl rfl)
    have hy := hf 1 _ _ rfl rfl
    obtain ⟨ao, n, cap, rfl, h1, h2⟩ := open_ens hy
    obtain ⟨ao', n', cap', he, h3, _⟩ := hy
    simp only [Value.slice.injEq] at he
    obtain ⟨rfl, rfl, rfl⟩ := he
    exact ⟨a, ao, n, cap, rfl, h3, h1, h2⟩
theorem few20_any (id : Int) (ao : Option Addr) (n cap : Nat) (hc : n ≤ cap) (w : World) : Calls Try.prog 7 #[mnV id ao n cap] w fun e w' => e = .returned (mnV id ao (min n 40) cap) ∧ Below w.heap.size w w' := by
  refine sx_fn (S := SX) (M := []) (N := 12) (H0 := []) Try.func7 rfl rfl rfl (Sat.nil _ _) ?_
  ((try refine sx_use ?_); (repeat (refine SxNew.mk fun _ => ?_; (try refine sx_use ?_))))
  refine SxIf.dec (fun h => ?_) (fun h => ?_)
  · ((try refine sx_use ?_); (repeat (refine SxNew.mk fun _ => ?_; (try refine sx_use ?_))))
    refine SxBnd.mk 0 40 rfl rfl (by omega) (by omega) ?_
    ((try refine sx_use ?_); (repeat (refine SxNew.mk fun _ => ?_; (try refine sx_use ?_))))
    intro ao' h1 h2
    have e : ao' = ao := ao_same h1 h2
    subst e
    ((try refine sx_use ?_); (repeat (refine SxNew.mk fun _ => ?_; (try refine sx_use ?_))))
    exact SxDone.mk fun w' hs => ⟨by rw [Nat.min_eq_right (by omega)]; rfl, hs.touch.below⟩
  · rw [Nat.min_eq_left (by omega)]
    ((try refine sx_use ?_); (repeat (refine SxNew.mk fun _ => ?_; (try refine sx_use ?_))))
    exact SxDone.mk fun w' hs => ⟨rfl, hs.touch.below⟩
theorem Add_nil (lo : Option Addr) (n lc : Nat) (w : World) : Calls Try.prog 10 #[.pointer none, .slice lo n lc] w fun e w' => e = .returned (.tuple #[]) ∧ Below w.heap.size w w' := by
  refine sx_fn (S := SX) (M := []) (H0 := []) (N := 36) Try.func10 rfl rfl rfl (Sat.nil _ _) ?_
  ((try refine sx_use ?_); (repeat (refine SxNew.mk fun _ => ?_; (try refine sx_use ?_))))
  refine SxCall.quiet made_nil ?_
  ((try refine sx_use ?_); (repeat (refine SxNew.mk fun _ => ?_; (try refine sx_use ?_))))
  exact SxDone.mk fun w' hs => ⟨rfl, hs.touch.below⟩
theorem Sub_nil (id : Int) (ao : Option Addr) (n cap : Nat) (w : World) : Calls Try.prog 9 #[.pointer none, mnV id ao n cap] w fun e w' => e = .returned (.int .i64 4) ∧ Below w.heap.size w w' := by
  refine sx_fn (S := SX) (M := []) (H0 := []) (N := 75) Try.func9 rfl rfl rfl (Sat.nil _ _) ?_
  ((try refine sx_use ?_); (repeat (refine SxNew.mk fun _ => ?_; (try refine sx_use ?_))))
  refine SxCall.quiet made_nil ?_
  ((try refine sx_use ?_); (repeat (refine SxNew.mk fun _ => ?_; (try refine sx_use ?_))))
  exact SxDone.mk fun w' hs => ⟨rfl, hs.touch.below⟩
theorem good_long (id : Int) (ao : Option Addr) (n cap : Nat) (hn : 256 < n) (w : World) : Calls Try.prog 47 #[hdV id ao n cap] w fun e w' => e = .returned (.bool false) ∧ Below w.heap.size w w' := by
  refine sx_fn (S := SX) (M := []) (N := 48) (H0 := []) Try.func47 rfl rfl rfl (Sat.nil _ _) ?_
  ((try refine sx_use ?_); (repeat (refine SxNew.mk fun _ => ?_; (try refine sx_use ?_))))
  refine SxIf.dec (fun h1 => ?_) (fun h1 => ?_)
  · ((try refine sx_use ?_); (repeat (refine SxNew.mk fun _ => ?_; (try refine sx_use ?_))))
    exact SxDone.mk fun w' hs => ⟨rfl, hs.touch.below⟩
  ((try refine sx_use ?_); (repeat (refine SxNew.mk fun _ => ?_; (try refine sx_use ?_))))
  refine SxIf.dec (fun h2 => ?_) (fun h2 => ?_)
  · ((try refine sx_use ?_); (repeat (refine SxNew.mk fun _ => ?_; (try refine sx_use ?_))))
    exact SxDone.mk fun w' hs => ⟨rfl, hs.touch.below⟩
  ((try refine sx_use ?_); (repeat (refine SxNew.mk fun _ => ?_; (try refine sx_use ?_))))
  exact SxDone.mk fun w' hs => ⟨rfl, hs.touch.below⟩
theorem BSize_long (id : Int) (ao : Option Addr) (n cap : Nat) (hn : 256 < n) (w : World) : Calls Try.prog 38 #[hdV id ao n cap] w fun e w' => e = .returned (.int .i64 0) ∧ Below w.heap.size w w' := by
  refine sx_fn (S := SX) (M := []) (N := 26) (H0 := []) Try.func38 rfl rfl rfl (Sat.nil _ _) ?_
  ((try refine sx_use ?_); (repeat (refine SxNew.mk fun _ => ?_; (try refine sx_use ?_))))
  refine SxCall.quiet (good_long id ao n cap hn) ?_
  ((try refine sx_use ?_); (repeat (refine SxNew.mk fun _ => ?_; (try refine sx_use ?_))))
  exact SxDone.mk fun w' hs => ⟨rfl, hs.touch.below⟩
theorem BSize_ex (id : Int) (sl : List (Int × Int)) (ao : Option Addr) (n cap : Nat) (hl : sl.length = min n 1000) (w : World) (hr : Rd w ao (sl.flatMap encS)) :
    ∃ v : Int, (256 < n → v = 0) ∧ ∀ w, Rd w ao (sl.flatMap encS) → Calls Try.prog 38 #[hdV id ao n cap] w fun e w' => e = .returned (.int .i64 v) ∧ Below w.heap.size w w' := by
  by_cases hn : 256 < n
  · exact ⟨0, fun _ => rfl, fun w _ => BSize_long id ao n cap hn w⟩
  · obtain rfl : n = sl.length := by omega
    exact ⟨_, fun h => absurd h hn, fun w hr => BSize_any id sl ao cap w hr (by omega)⟩
def hdE : Enc (Int × Int) := ⟨encS, 2, by decide, fun _ => rfl, fun _ => rfl⟩
theorem Bytes_nil (id : Int) (sl : List (Int × Int)) (ao lo : Option Addr) (n cap lc : Nat) (hl : sl.length = min n 1000) (w : World) (hr : Rd w ao (sl.flatMap encS)) (hlr : Rd w lo [.int .u32 id, .slice ao n cap]) :
    Calls Try.prog 20 #[.pointer none, .slice lo 1 lc] w fun e w' => e = .returned (.int .i64 0) ∧ Below w.heap.size w w' := by
  obtain ⟨v, hv, hS⟩ := BSize_ex id sl ao n cap hl w hr
  refine sx_fn (S := SX) (M := []) (H0 := [.rd lo [.int .u32 id, .slice ao n cap], .rd ao (sl.flatMap encS)]) (N := 41) Try.func20 rfl rfl rfl (Sat.twoRd _ hlr hr) ?_
  ((try refine sx_use ?_); (repeat (refine SxNew.mk fun _ => ?_; (try refine sx_use ?_))))
  refine SxCode.loop (σ := Nat) [12, 5] [13, 14, 15, 7, 16, 17, 18, 19, 20, 21, 22, 23, 24, 25, 26, 9, 8, 27, 28, 29, 30, 31, 32, 33, 34, 35, 36, 37, 5, 38, 39, 12] (fun k => [.int .i64 (k : Nat), .int .i64 0]) (fun _ => [.rd lo [.int .u32 id, .slice ao n cap], .rd ao (sl.flatMap encS)]) (fun k => k ≤ 1) (fun k => 1 - k) 0 [0, 1] rfl rfl rfl rfl (Nat.zero_le _) ?_
  rintro k hk
  have hc : k = 0 ∨ k = 1 := by omega
  rcases hc with rfl | rfl
  · ((try refine sx_use ?_); (repeat (refine SxNew.mk fun _ => ?_; (try refine sx_use ?_))))
    refine SxIA.rd 0 _ rfl 0 rfl (by decide) (by show 0 < 2; decide) fun g off ha => ?_
    ((try refine sx_use ?_); (repeat (refine SxNew.mk fun _ => ?_; (try refine sx_use ?_))))
    refine SxLdN.rd 0 rfl ha rfl rfl rfl ?_
    ((try refine sx_use ?_); (repeat (refine SxNew.mk fun _ => ?_; (try refine sx_use ?_))))
    rename_i b7
    refine SxCall.quietS (fun w hs => hS w (hs.rd 2 rfl)) ?_
    ((try refine sx_use ?_); (repeat (refine SxNew.mk fun _ => ?_; (try refine sx_use ?_))))
    refine SxIf.eq (fun h0 => ?_) (fun h0 => ?_)
    · ((try refine sx_use ?_); (repeat (refine SxNew.mk fun _ => ?_; (try refine sx_use ?_))))
      exact SxRound.mk 1 [1, 2] rfl rfl rfl (Nat.le_refl _) (by decide)
    · have hn : n ≤ 256 := by
        rcases Nat.lt_or_ge 256 n with h | h
        · exact absurd (hv h) h0
        · exact h
      obtain rfl : n = sl.length := by omega
      ((try refine sx_use ?_); (repeat (refine SxNew.mk fun _ => ?_; (try refine sx_use ?_))))
      refine SxCode.loop (σ := Nat) [22, 5] [23, 24, 25, 26, 9, 8, 27, 28, 29, 30, 31, 32, 33, 34, 35, 36, 37, 5, 38, 22] (fun k => [.int .i64 (k : Nat), .int .i64 0]) (fun _ => [.blk b7 51 [.int .u32 id, .slice ao sl.length cap], .rd lo [.int .u32 id, .slice ao sl.length cap], .rd ao (sl.flatMap encS)]) (fun k => k ≤ sl.length) (fun k => sl.length - k) 0 [0, 1, 2] rfl rfl rfl rfl (Nat.zero_le _) ?_
      rintro k hk2
      ((try refine sx_use ?_); (repeat (refine SxNew.mk fun _ => ?_; (try refine sx_use ?_))))
      refine SxIf.dec (fun h => ?_) (fun h => ?_)
      · have hlt : k < sl.length := by omega
        obtain ⟨x, hx⟩ : ∃ x, sl[k]? = some x := ⟨sl[k], by simp [hlt]⟩
        have hat : ((sl.flatMap encS).drop (k * 2)).take 2 = hdE.enc x := hdE.fl_at hx
        ((try refine sx_use ?_); (repeat (refine SxNew.mk fun _ => ?_; (try refine sx_use ?_))))
        refine SxIA.rd 2 _ rfl k rfl hlt (by rw [show (sl.flatMap encS).length = sl.length * 2 from hdE.fl_len sl]; omega) fun g off ha => ?_
        ((try refine sx_use ?_); (repeat (refine SxNew.mk fun _ => ?_; (try refine sx_use ?_))))
        refine SxLdN.rd 2 rfl ha rfl (vs := hdE.enc x) rfl hat ?_
        ((try refine sx_use ?_); (repeat (refine SxNew.mk fun _ => ?_; (try refine sx_use ?_))))
        refine SxCall.quiet (fun w => Count_nil w ⟨id, (k : Nat)⟩) ?_
        ((try refine sx_use ?_); (repeat (refine SxNew.mk fun _ => ?_; (try refine sx_use ?_))))
        exact SxRound.mk (k + 1) [1, 2, 3] rfl rfl rfl hlt (by omega)
      · ((try refine sx_use ?_); (repeat (refine SxNew.mk fun _ => ?_; (try refine sx_use ?_))))
        exact SxRound.mk 1 [1, 2] rfl rfl rfl (Nat.le_refl _) (by decide)
  · ((try refine sx_use ?_); (repeat (refine SxNew.mk fun _ => ?_; (try refine sx_use ?_))))
    exact SxDone.mk fun w' hs => ⟨rfl, hs.touch.below⟩
theorem RInts_any (a b : List Int) (ao bo : Option Addr) (ac bc : Nat) (w : World) (ha : Rd w ao (a.map i64V)) (hb : Rd w bo (b.map i64V)) :
    Calls Try.prog 28 #[.slice ao a.length ac, .slice bo b.length bc] w fun e w' => e = .returned (.bool (decide (a = b))) ∧ Below w.heap.size w w' := by
  have hal : a.length ≤ maxLen := by have := ha.1; rw [List.length_map] at this; exact this
  unfold maxLen at hal
  refine sx_fn (S := SX) (M := []) (N := 26) (H0 := [.rd ao (a.map i64V), .rd bo (b.map i64V)]) Try.func28 rfl rfl rfl (Sat.twoRd _ ha hb) ?_
  ((try refine sx_use ?_); (repeat (refine SxNew.mk fun _ => ?_; (try refine sx_use ?_))))
  refine SxIf.ne (fun h => ?_) (fun h => ?_)
  · ((try refine sx_use ?_); (repeat (refine SxNew.mk fun _ => ?_; (try refine sx_use ?_))))
    exact SxDone.mk fun w' hs => ⟨by rw [decide_eq_false fun he => h (by rw [he])]; rfl, hs.touch.below⟩
  have hl : a.length = b.length := by omega
  ((try refine sx_use ?_); (repeat (refine SxNew.mk fun _ => ?_; (try refine sx_use ?_))))
  refine SxCode.loop (σ := Nat) [5, 4] [11, 12, 13, 14, 17, 18, 19, 20, 21, 22, 23, 24, 25, 4, 15, 16, 5] (fun k => [.int .i64 (k : Nat), .bool false]) (fun _ => [.rd ao (a.map i64V), .rd bo (b.map i64V)]) (fun k => k ≤ a.length ∧ a.take k = b.take k) (fun k => a.length - k) 0 [0, 1] rfl rfl rfl rfl ⟨Nat.zero_le _, rfl⟩ ?_
  rintro k ⟨hk, he⟩
  ((try refine sx_use ?_); (repeat (refine SxNew.mk fun _ => ?_; (try refine sx_use ?_))))
  refine SxIf.dec (fun h => ?_) (fun h => ?_)
  · have hlt : k < a.length := by omega
    obtain ⟨x, hx⟩ : ∃ x, a[k]? = some x := ⟨a[k], by simp [hlt]⟩
    obtain ⟨y, hy⟩ : ∃ y, b[k]? = some y := ⟨b[k]'(by omega), by simp [show k < b.length by omega]⟩
    ((try refine sx_use ?_); (repeat (refine SxNew.mk fun _ => ?_; (try refine sx_use ?_))))
    (try refine SxCode.drawAll rfl [] ?_)
    (try ((try refine sx_use ?_); (repeat (refine SxNew.mk fun _ => ?_; (try refine sx_use ?_)))))
    refine SxIA.rd 0 _ rfl k rfl hlt (by rw [List.length_map]; omega) fun g off ha => ?_
    ((try refine sx_use ?_); (repeat (refine SxNew.mk fun _ => ?_; (try refine sx_use ?_))))
    refine SxLd.rd 0 rfl ha rfl (j := k * 1) (v := .int .i64 x) (by rw [Nat.mul_one, List.getElem?_map, hx]; rfl) ?_
    ((try refine sx_use ?_); (repeat (refine SxNew.mk fun _ => ?_; (try refine sx_use ?_))))
    refine SxIA.rd 1 _ rfl k rfl (by omega) (by rw [List.length_map]; omega) fun g off ha => ?_
    ((try refine sx_use ?_); (repeat (refine SxNew.mk fun _ => ?_; (try refine sx_use ?_))))
    refine SxLd.rd 1 rfl ha rfl (j := k * 1) (v := .int .i64 y) (by rw [Nat.mul_one, List.getElem?_map, hy]; rfl) ?_
    ((try refine sx_use ?_); (repeat (refine SxNew.mk fun _ => ?_; (try refine sx_use ?_))))
    refine SxIf.ne (fun h2 => ?_) (fun h2 => ?_)
    · have h3 : a ≠ b := fun e => h2 (by subst e; exact Option.some.inj (hx.symm.trans hy))
      ((try refine sx_use ?_); (repeat (refine SxNew.mk fun _ => ?_; (try refine sx_use ?_))))
      exact SxDone.mk fun w' hs => ⟨by rw [decide_eq_false h3]; rfl, hs.touch.below⟩
    · ((try refine sx_use ?_); (repeat (refine SxNew.mk fun _ => ?_; (try refine sx_use ?_))))
      exact SxRound.mk (k + 1) [0, 1] rfl rfl rfl ⟨hlt, by rw [take_snocE hx, take_snocE hy, he, h2]⟩ (by omega)
  · obtain rfl : k = a.length := by omega
    rw [List.take_length, hl, List.take_length] at he
    ((try refine sx_use ?_); (repeat (refine SxNew.mk fun _ => ?_; (try refine sx_use ?_))))
    exact SxDone.mk fun w' hs => ⟨by rw [decide_eq_true he]; rfl, hs.touch.below⟩
section
variable {W : World} {M : List Nat} {H : Hp} {A : Value → Hp → Prop}
theorem row_apart {w : World} (hs : Sat W M H w) {q r gm n cap e k : Nat} {lo : Option Addr} {cs cs' : List Value} {es : List (Value × Value)} (hq : H[q]? = some (mapE plKey gm es)) (hr : H[r]? = some (.row lo n cap e k cs)) : ¬ (Ent.rd lo cs').uses gm := fun hu => by
  have hne : q ≠ r := fun e => by subst e; rw [hq] at hr; cases hr
  exact hs.sep q r _ _ hne hq hr gm rfl hu.2
theorem rd_apart {w : World} (hs : Sat W M H w) {q r gm : Nat} {lo : Option Addr} {cs : List Value} {es : List (Value × Value)} (hq : H[q]? = some (mapE plKey gm es)) (hr : H[r]? = some (.rd lo cs)) : ¬ (Ent.rd lo cs).uses gm := fun hu => by
  have hne : q ≠ r := fun e => by subst e; rw [hq] at hr; cases hr
  exact hs.sep q r _ _ hne hq hr gm rfl hu
theorem old_apart {w : World} (hs : Sat W [] H w) {q gm : Nat} {lo : Option Addr} {cs : List Value} {es : List (Value × Value)} (hq : H[q]? = some (mapE plKey gm es)) (hr : Rd W lo cs) : ¬ (Ent.rd lo cs).uses gm := fun hu => by
  have h1 := Ent.uses_lt (e := .rd lo cs) (w := W) hr hu
  rcases hs.own q _ hq gm rfl with h | h
  · omega
  · cases h
/-- A call of Add. -/
theorem SxCall.add (p q : Nat) {gt gm lc : Nat} {lo : Option Addr} {d : List (Pl × Nat)} {l : List Pl} (ms : List Mf) (hp : H[p]? = some (tabE gt gm)) (hq : H[q]? = some (mapE plKey gm (kvT d))) (hd : Tab d l) (hlen : l.length + (plsM ms).length ≤ 1000000)
    (hr : ∀ w, Sat W M H w → Rd w lo (mfE.fl ms) ∧ ¬ (Ent.rd lo (mfE.fl ms)).uses gm) (hms : ∀ m ∈ ms, ∀ w, Sat W M H w → Rd w m.ao (enE.fl m.es) ∧ ¬ (Ent.rd m.ao (enE.fl m.es)).uses gm)
    (h : ∀ d', Tab d' (l ++ plsM ms) → A (.tuple #[]) (H.set q (mapE plKey gm (kvT d')))) : SxCall SX W M 10 #[.pointer (some ⟨gt, 0, none⟩), .slice lo ms.length lc] H A :=
  ⟨fun w hs => by
    have hne : gt ≠ gm := fun e => hs.sep p q _ _ (fun e => by subst e; rw [hp] at hq; cases hq) hp hq gt rfl e
    refine (Add_any gt gm d l hd ms hlen lo lc w (tabR_of hs p hp) (mapT_of hs q hq) hne (hr w hs).1 (hr w hs).2 (fun m hm => hms m hm w hs)).mono ?_
    rintro e w' ⟨rfl, hg, d', h1, h2⟩
    exact ⟨_, _, rfl, hs.set hq (e' := mapE plKey gm (kvT d')) hg h2 (fun b hb => .inl (by rw [show b = gm from hb]; rfl)), h d' h1⟩⟩
theorem tv_of {w : World} (hs : Sat W M H w) (p q : Nat) {gt gm : Nat} {d : List (Pl × Nat)} {l : List Pl} (hp : H[p]? = some (tabE gt gm)) (hq : H[q]? = some (mapE plKey gm (kvT d))) (hd : Tab d l) : TV w (.pointer (some ⟨gt, 0, none⟩)) l := .inr ⟨gt, gm, d, rfl, tabR_of hs p hp, mapT_of hs q hq, hd⟩
end
def lvA : List En := [⟨List.replicate 32 0, 0, 3, 0, rfl⟩, ⟨List.replicate 32 0, 0, 3, 2, rfl⟩, ⟨List.replicate 32 0, 0, 3, 0, rfl⟩]
def lvP : List Pl := [⟨3, 0⟩, ⟨3, 2⟩, ⟨3, 0⟩]
theorem lvA_slots : slotL (setP lvP) 3 = [0, 2] := by rw [← setRP_eq]; decide
set_option maxHeartbeats 4000000 in
theorem lv_awake (w : World) : Calls Try.prog 15 #[] w fun e w' => e = .returned (.bool true) ∧ Below w.heap.size w w' := by
  refine sx_fn (S := SX) (M := []) (H0 := []) (N := 21) Try.func15 rfl rfl rfl (Sat.nil _ _) ?_
  ((try refine sx_use ?_); (repeat (refine SxNew.mk fun _ => ?_; (try refine sx_use ?_))))
  refine SxCall.mk fun w hs => (New_sat hs).mono ?_
  rintro e w' ⟨gt, gm, rfl, hs'⟩
  refine ⟨_, _, rfl, hs', ?_⟩
  clear hs' hs w'
  ((try refine sx_use ?_); (repeat (refine SxNew.mk fun _ => ?_; (try refine sx_use ?_))))
  rename_i ge gl
  refine SxCall.add 2 3 [⟨1, some ⟨ge, 0, none⟩, 3, lvA⟩] rfl rfl Tab.nil (by show 0 + 3 ≤ 1000000; decide) (fun w hs => ⟨hs.rowRd 0 rfl (by show 2 ≤ maxLen; decide), row_apart hs (q := 3) (r := 0) rfl rfl⟩) (fun m hm w hs => by
    simp only [List.mem_singleton] at hm
    subst hm
    exact ⟨hs.rowRd 1 rfl (by show 105 ≤ maxLen; decide), row_apart hs (q := 3) (r := 1) rfl rfl⟩) fun d' hd' => ?_
  replace hd' : Tab d' lvP := hd'
  have hsl : ∀ w, TV w (.pointer (some ⟨gt, 0, none⟩)) lvP → Calls Try.prog 19 #[.pointer (some ⟨gt, 0, none⟩), .int .u32 3] w fun e w' => ∃ ao' cap', e = .returned (.slice ao' 2 cap') ∧ NewRow w w' ao' 2 cap' 3 1 (([0, 2] : List Int).map i64V) := fun w h => by
    have := Slots_tv (l := lvP) (by decide) 3 w h
    rw [lvA_slots] at this
    exact this
  ((try refine sx_use ?_); (repeat (refine SxNew.mk fun _ => ?_; (try refine sx_use ?_))))
  refine SxCall.quietS (v := .int .i64 2) (fun w hs => Count_any gt gm d' lvP hd' ⟨3, 0⟩ w (tabR_of hs 2 rfl) (mapT_of hs 3 rfl)) ?_
  ((try refine sx_use ?_); (repeat (refine SxNew.mk fun _ => ?_; (try refine sx_use ?_))))
  refine SxCall.newRow (fun w hs => hsl w (tv_of hs 2 3 rfl rfl hd')) fun so sc => ?_
  ((try refine sx_use ?_); (repeat (refine SxNew.mk fun _ => ?_; (try refine sx_use ?_))))
  refine SxCall.quietS (v := .bool true) (fun w hs => RInts_any [0, 2] [0, 2] so _ sc _ w (hs.rowRd 1 rfl (by decide)) (hs.rowRd 0 rfl (by decide))) ?_
  ((try refine sx_use ?_); (repeat (refine SxNew.mk fun _ => ?_; (try refine sx_use ?_))))
  exact SxDone.mk fun w' hs => ⟨rfl, hs.touch.below⟩
set_option maxHeartbeats 8000000 in
theorem LiveNobody_law (w : World) (cs : List Value) (h : FitR Try.prog w 4 [.int .u32, .slice 65] cs) (hs : List Value) (h2 : FitR Try.prog w 4 [.int .u32, .slice 83] hs) (ps : List Value) (h3 : FitR Try.prog w 4 [.int .u32, .int .i64] ps) :
    Calls Try.prog 5 #[.agg cs.toArray, .agg hs.toArray, .agg ps.toArray] w fun e w' => e = .returned (.bool true) ∧ Below w.heap.size w w' := by
  obtain ⟨id, ao, n, ac, he, hn, hnm, es, hes, hr⟩ := open_mn2 h
  obtain ⟨x, rfl⟩ := open_pl ps h3
  rw [he]
  clear h he h3
  have hf := few20_any id ao n ac hn
  obtain ⟨hl2, hf2⟩ := h2
  match hs, hl2 with
  | [a, b], _ =>
    obtain ⟨bid, rfl, _⟩ := fitK_int (hf2 0 _ _ rfl rfl)
    have hb := hf2 1 _ _ rfl rfl
    obtain ⟨bo, m, bc, rfl, hm, sl, hsl, hbr⟩ := open_rows hdE (by decide) [.int .i64, .int .u32] hb (by kernel_rfl) (by kernel_rfl) rfl fun cs h => by
      obtain ⟨hl, hf⟩ := h
      match cs, hl with
      | [x, y], _ =>
        obtain ⟨s, rfl, _⟩ := fitK_int (hf 0 _ _ rfl rfl)
        obtain ⟨n, rfl, _⟩ := fitK_int (hf 1 _ _ rfl rfl)
        exact ⟨(s, n), rfl⟩
    have hbr2 : Rd w bo (sl.flatMap encS) := hbr
    have e0 : setP [] = [] := by rw [← setRP_eq]; rfl
    have hL : ∀ {W : World} {M : List Nat} {H : Hp}, ∀ w, Sat W M H w → Calls SX.P 17 #[.pointer none] w fun e w' => ∃ ao' cap', e = .returned (.slice ao' 0 cap') ∧ NewRow w w' ao' 0 cap' 25 2 [] := fun w _ => by
      have := Live_tv (l := []) (by decide) w (.inl ⟨rfl, rfl⟩)
      rw [e0] at this
      exact this
    have hB : ∀ {W : World} {M : List Nat} {H : Hp}, ∀ w, Sat W M H w → Calls SX.P 18 #[.pointer none] w fun e w' => ∃ ao' cap', e = .returned (.slice ao' 0 cap') ∧ NewRow w w' ao' 0 cap' 23 1 [] := fun w _ => by
      have := Boxes_tv (l := []) (by decide) w (.inl ⟨rfl, rfl⟩)
      rw [e0] at this
      exact this
    have hS : ∀ {W : World} {M : List Nat} {H : Hp}, ∀ w, Sat W M H w → Calls SX.P 19 #[.pointer none, .int .u32 x.bx] w fun e w' => ∃ ao' cap', e = .returned (.slice ao' 0 cap') ∧ NewRow w w' ao' 0 cap' 3 1 [] := fun w _ => by
      have := Slots_tv (l := []) (by decide) x.bx w (.inl ⟨rfl, rfl⟩)
      rw [e0] at this
      exact this
    refine sx_fn (S := SX) (M := []) (H0 := [.rd bo (sl.flatMap encS)]) (N := 61) Try.func5 rfl rfl rfl (Sat.oneRd _ hbr2) ?_
    ((try refine sx_use ?_); (repeat (refine SxNew.mk fun _ => ?_; (try refine sx_use ?_))))
    refine SxCall.quiet hf ?_
    ((try refine sx_use ?_); (repeat (refine SxNew.mk fun _ => ?_; (try refine sx_use ?_))))
    refine SxCall.quiet (Add_nil _ _ _) ?_
    ((try refine sx_use ?_); (repeat (refine SxNew.mk fun _ => ?_; (try refine sx_use ?_))))
    refine SxCall.quiet (fun w => Sub_nil id ao (min n 40) ac w) ?_
    ((try refine sx_use ?_); (repeat (refine SxNew.mk fun _ => ?_; (try refine sx_use ?_))))
    refine SxCall.quiet (fun w => Count_nil w x) ?_
    ((try refine sx_use ?_); (repeat (refine SxNew.mk fun _ => ?_; (try refine sx_use ?_))))
    refine SxCall.newRow hL ?_
    intro a1 c1
    ((try refine sx_use ?_); (repeat (refine SxNew.mk fun _ => ?_; (try refine sx_use ?_))))
    refine SxCall.newRow hB ?_
    intro a2 c2
    ((try refine sx_use ?_); (repeat (refine SxNew.mk fun _ => ?_; (try refine sx_use ?_))))
    refine SxCall.newRow hS ?_
    intro a3 c3
    ((try refine sx_use ?_); (repeat (refine SxNew.mk fun _ => ?_; (try refine sx_use ?_))))
    refine SxCall.quietS (fun w hs => Bytes_nil bid sl bo _ m bc _ hsl w (hs.rd 8 rfl) (hs.rowRd 0 rfl (by show 2 ≤ maxLen; decide))) ?_
    ((try refine sx_use ?_); (repeat (refine SxNew.mk fun _ => ?_; (try refine sx_use ?_))))
    refine SxCall.mk fun w hs => (New_sat hs).mono ?_
    rintro e w' ⟨gt, gm, rfl, hs'⟩
    refine ⟨_, _, rfl, hs', ?_⟩
    clear hs' hs w'
    ((try refine sx_use ?_); (repeat (refine SxNew.mk fun _ => ?_; (try refine sx_use ?_))))
    refine SxCall.quietS (v := .bool true) (fun w hs => (Same_tv (l := []) (l' := []) (by decide) (by decide) w (.inl ⟨rfl, rfl⟩) (tv_of hs 0 1 rfl rfl Tab.nil)).mono fun e w' ⟨b, h1, h2, h3⟩ => ⟨by rw [h1, h2.2 fun _ => rfl], h3⟩) ?_
    ((try refine sx_use ?_); (repeat (refine SxNew.mk fun _ => ?_; (try refine sx_use ?_))))
    refine SxCall.quietS (v := .bool true) (fun w hs => (Same_tv (l := []) (l' := []) (by decide) (by decide) w (.inl ⟨rfl, rfl⟩) (.inl ⟨rfl, rfl⟩)).mono fun e w' ⟨b, h1, h2, h3⟩ => ⟨by rw [h1, h2.2 fun _ => rfl], h3⟩) ?_
    ((try refine sx_use ?_); (repeat (refine SxNew.mk fun _ => ?_; (try refine sx_use ?_))))
    refine SxCall.quiet lv_awake ?_
    ((try refine sx_use ?_); (repeat (refine SxNew.mk fun _ => ?_; (try refine sx_use ?_))))
    exact SxDone.mk fun w' hs => ⟨rfl, hs.touch.below⟩
end Go.Proofs.Ytcpbgacdoigpnaa

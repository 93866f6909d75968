/- The law of layer 16: RecipeJoins. -/
import Derived.Test.YtbbngmlgpjepnaaZRcP
namespace Go.Proofs.Ytbbngmlgpjepnaa
open Go.RowKit

theorem pickH_cat (H : Hp) : ∀ {ks ls : List Nat} {A B : Hp}, pickH H ks = some A → pickH H ls = some B → pickH H (ks ++ ls) = some (A ++ B)
  | [], ls, A, B, h, k => by simp only [pickH, Option.some.injEq] at h; subst h; exact k
  | i :: r, ls, A, B, h, k => by
    unfold pickH at h
    split at h
    · rename_i e he
      split at h
      · rename_i es hes
        simp only [Option.some.injEq] at h
        subst h
        show pickH H (i :: (r ++ ls)) = _
        unfold pickH
        rw [he, pickH_cat H hes k]
        rfl
      · cases h
    · cases h
theorem pickH_pre (pre T : Hp) : ∀ {ks : List Nat} {A : Hp}, pickH pre ks = some A → pickH (pre ++ T) ks = some A
  | [], A, h => h
  | i :: r, A, h => by
    unfold pickH at h
    split at h
    · rename_i e he
      split at h
      · rename_i es hes
        unfold pickH
        rw [List.getElem?_append_left (List.getElem?_eq_some_iff.1 he).1, he, pickH_pre pre T hes]
        exact h
      · cases h
    · cases h
theorem pickH_tail (pre T : Hp) (ks : List Nat) {A : Hp} (h : pickH pre ks = some A) : pickH (pre ++ T) (ks ++ List.range' pre.length T.length) = some (A ++ T) := by
  have h2 := pickH_from (pre ++ T) pre.length T.length (by rw [List.length_append])
  rw [List.drop_left] at h2
  exact pickH_cat _ (pickH_pre pre T h) h2
theorem nodupB_tail (m k : Nat) : ∀ (ks : List Nat), nodupB ks = true → (∀ x ∈ ks, x < m) → nodupB (ks ++ List.range' m k) = true
  | [], _, _ => nodupB_from m k
  | x :: r, h, hm => by
    simp only [nodupB, Bool.and_eq_true, Bool.not_eq_true', List.any_eq_false] at h
    show nodupB (x :: (r ++ List.range' m k)) = true
    simp only [nodupB, Bool.and_eq_true, Bool.not_eq_true', List.any_eq_false]
    refine ⟨fun y hy => ?_, nodupB_tail m k r h.2 fun y hy => hm y (by simp [hy])⟩
    rcases List.mem_append.1 hy with hy | hy
    · exact h.1 y hy
    · have h1 := hm x (by simp)
      have h2 := List.mem_range'_1.1 hy
      intro hb
      have := Nat.eq_of_beq_eq_true hb
      omega
theorem SxCall.newRd {S : Sx} {W : World} {M : List Nat} {H : Hp} {f : Nat} {args : Array Value} {A : Value → Hp → Prop} {v : Option Addr → Nat → Value} {n e k : Nat} {cs : List Value} (hm : cs.length ≤ maxLen)
    (hc : ∀ w, Sat W M H w → Calls S.P f args w fun en w' => ∃ ao cap, en = .returned (v ao cap) ∧ NewRow w w' ao n cap e k cs) (h : ∀ ao cap, A (v ao cap) (.rd ao cs :: H)) : SxCall S W M f args H A :=
  ⟨fun w hs => (hc w hs).mono fun _ w' he => by
    obtain ⟨ao, cap, h1, h2⟩ := he
    have hs' := hs.addNew h2
    have hr := hs'.rowRd 0 rfl hm
    refine ⟨_, _, h1, hs.cons (Below.toGrown h2.below) (e := .rd ao cs) hr fun g hg => ?_, h ao cap⟩
    refine (World.ownsRow.lt h2.owns g ?_).1
    cases ao with
    | none => cases hg.2
    | some a => simpa [Ent.uses, Value.ownBlock] using hg.2⟩
def tailE (M : List Rl) : Hp := M.reverse.map fun x => Ent.rd x.2.1 (x.1.ms.map u4V)
theorem tailE_snoc (M : List Rl) (x : Rl) : tailE (M ++ [x]) = .rd x.2.1 (x.1.ms.map u4V) :: tailE M := by simp [tailE]
theorem tailE_mem {M : List Rl} {x : Rl} (h : x ∈ M) : ∃ i : Nat, (tailE M)[i]? = some (.rd x.2.1 (x.1.ms.map u4V)) := by
  obtain ⟨i, hi, he⟩ := List.getElem_of_mem (List.mem_reverse.2 h)
  exact ⟨i, by unfold tailE; rw [List.getElem?_map, List.getElem?_eq_getElem hi, he]; rfl⟩
theorem pick6 (a b c d e f : Ent) (T : Hp) : pickH (a :: b :: c :: d :: e :: f :: T) ([4, 5, 2] ++ List.range' 6 T.length) = some (e :: f :: c :: T) := pickH_tail [a, b, c, d, e, f] T [4, 5, 2] rfl
def fewRl (x : Rl) : Rl := (x.1.few, x.2.1, x.2.2)
instance (l : List Rl) : Decidable (allMay l) := by unfold allMay; infer_instance
instance (nm : List UInt8) (l : List Rl) : Decidable (joinOk nm l) := by unfold joinOk; infer_instance
/-- Join, the program's and the document's, told at once. -/
theorem Join_one (nm : List UInt8) (hnm : nm.length ≤ maxLen) (li : List Rl) (hli : li.length ≤ 100) (hnl : ∀ x ∈ li, x.1.nm.length ≤ maxLen) (hml : ∀ x ∈ li, x.1.ms.length ≤ 2000) :
    ∃ (X : Rc) (c : Int) (b : Bool), X.ms.length ≤ 1024 ∧ ((c == 0) = b) ∧ (b = false → c = 1) ∧
      (∀ lo lc w, Rd w lo (rcs li) → (∀ x ∈ li, Rd w x.2.1 (x.1.ms.map u4V)) → Calls Try.prog 17 #[txV nm, .slice lo li.length lc] w fun e w' => ∃ ao' cap', e = .returned (.tuple #[X.v ao' cap', .int .i64 c]) ∧ NewRow w w' ao' X.ms.length cap' 42 1 (X.ms.map u4V)) ∧
      (∀ lo lc w, Rd w lo (rcs li) → (∀ x ∈ li, Rd w x.2.1 (x.1.ms.map u4V)) → Calls Try.prog 18 #[txV nm, .slice lo li.length lc] w fun e w' => ∃ ao' cap', e = .returned (.tuple #[X.v ao' cap', .bool b]) ∧ NewRow w w' ao' X.ms.length cap' 42 1 (X.ms.map u4V)) := by
  by_cases h : joinOk nm li
  · exact ⟨joinR nm li, 0, true, h.2.2.2.1, rfl, fun h => (by cases h), fun lo lc w hr hR => (Join_any nm hnm li hli hnl hml lo lc w hr hR).mono fun e w' k => k.1 h, fun lo lc w hr hR => (RJoin_any nm li hli hml lo lc w hr hR).mono fun e w' k => k.1 h⟩
  · exact ⟨zrc, 1, false, Nat.zero_le _, rfl, fun _ => rfl, fun lo lc w hr hR => (Join_any nm hnm li hli hnl hml lo lc w hr hR).mono fun e w' k => ⟨none, 0, (k.2 h).1, NewRow.nil _ _ (k.2 h).2⟩,
      fun lo lc w hr hR => (RJoin_any nm li hli hml lo lc w hr hR).mono fun e w' k => ⟨none, 0, (k.2 h).1, NewRow.nil _ _ (k.2 h).2⟩⟩
theorem Rd.rows {W w : World} {H : Hp} (h0 : Sat W [] H w) {l : List Rl} (h : ∀ x ∈ l, Rd W x.2.1 (x.1.ms.map u4V)) : ∀ x ∈ l, Rd w x.2.1 (x.1.ms.map u4V) := fun x hx => h0.old (h x hx)
theorem few_rds {W : World} {l : List Rl} (h : ∀ x ∈ l, Rd W x.2.1 (x.1.ms.map u4V)) : ∀ x ∈ l.map fewRl, Rd W x.2.1 (x.1.ms.map u4V) := by
  intro x hx
  obtain ⟨y, hy, rfl⟩ := List.mem_map.1 hx
  exact few_rd (h y hy)
set_option maxHeartbeats 8000000 in
theorem RecipeJoins_core (W0 : World) (nm : List UInt8) (hnm : nm.length ≤ maxLen) (n : Nat) (li : List Rl) (hn : li.length = min n 8) (hcap : ∀ x ∈ li, x.1.ms.length ≤ x.2.2) (lo : Option Addr) (lc : Nat) (hlo : Rd W0 lo (rcs li)) (hR : ∀ x ∈ li, Rd W0 x.2.1 (x.1.ms.map u4V))
    (ss : List ByteArray) (to : Option Addr) (tc : Nat) (hto : Rd W0 to (ss.map .string)) :
    Calls Try.prog 5 #[txV nm, .slice lo n lc, .slice to ss.length tc] W0 fun e w' => e = .returned (.bool true) ∧ Below W0.heap.size W0 w' := by
  have hsz : (⟨nm.toArray⟩ : ByteArray).size = nm.length := mk_size nm
  have hlen := rcs_len li
  refine sx_fn (S := SX) (M := []) (N := 131) (H0 := [.row none 0 0 28 5 [], .row none 0 0 28 5 [], .rd lo (rcs li), .rd to (ss.map .string)]) Try.func5 rfl rfl rfl (((Sat.twoRd _ hlo hto).nilRow 28 5).nilRow 28 5) ?_
  obtain ⟨nm1, hnm1, hnl1, hcases⟩ : ∃ nm1 : List UInt8, nm1 = nm.take 60 ∧ nm1.length ≤ 60 ∧ (nm.length ≤ 60 → nm1 = nm) := ⟨nm.take 60, rfl, by rw [List.length_take]; omega, fun h => List.take_of_length_le h⟩
  have hnm1' : nm1.length ≤ maxLen := by unfold maxLen; omega
  have hfl : (li.map fewRl).length ≤ 100 := by rw [List.length_map]; omega
  obtain ⟨X, c, b, hXm, hcb, hcb2, hJ, hRJ⟩ := Join_one nm1 hnm1' (li.map fewRl) hfl (fun x hx => by
    obtain ⟨y, hy, rfl⟩ := List.mem_map.1 hx
    show (y.1.nm.take 60).length ≤ _
    rw [List.length_take]; unfold maxLen; omega) (fun x hx => by
    obtain ⟨y, hy, rfl⟩ := List.mem_map.1 hx
    show (y.1.ms.take 1030).length ≤ _
    rw [List.length_take]; omega)
  have hXl : (X.ms.map u4V).length ≤ maxLen := by rw [List.length_map]; unfold maxLen; omega
  ((try refine sx_use ?_); (repeat (refine SxNew.mk fun _ => ?_; (try refine sx_use ?_))))
  refine SxIf.dec (fun h1 => ?_) (fun h1 => ?_)
  ((try refine sx_use ?_); (repeat (refine SxNew.mk fun _ => ?_; (try refine sx_use ?_))))
  refine SxBnd.mk 0 60 rfl rfl (by omega) (by omega) ?_
  have hex : (⟨nm.toArray⟩ : ByteArray).extract 0 60 = ⟨nm1.toArray⟩ := by rw [mk_extract, hnm1]; simp
  rw [hex]
  clear hex hnm1
  ((try refine sx_use ?_); (repeat (refine SxNew.mk fun _ => ?_; (try refine sx_use ?_))))
  rotate_left
  obtain rfl := hcases (by omega)
  clear hnm1
  ((try refine sx_use ?_); (repeat (refine SxNew.mk fun _ => ?_; (try refine sx_use ?_))))
  all_goals
    clear hcases
    refine SxCode.loop (σ := Nat × Option Addr × Nat) [8, 7] [26, 27, 28, 29, 30, 31, 32, 33, 36, 37, 38, 39, 40, 41, 42, 43, 7, 34, 35, 8] (fun s => [.int .i64 (s.1 : Nat), .slice s.2.1 s.1 s.2.2]) (fun s => [.row s.2.1 s.1 s.2.2 28 5 (rcs ((li.take s.1).map fewRl)), .row none 0 0 28 5 [], .rd lo (rcs li), .rd to (ss.map .string)]) (fun s => s.1 ≤ li.length) (fun s => li.length - s.1) (0, none, 0) [0, 1, 2, 3] rfl rfl rfl rfl (Nat.zero_le _) ?_
    rintro ⟨k, ao, cap⟩ hk
    dsimp only at hk ⊢
    ((try refine sx_use ?_); (repeat (refine SxNew.mk fun _ => ?_; (try refine sx_use ?_))))
    refine SxIf.dec (fun h2 => ?_) (fun h2 => ?_)
    ((try refine sx_use ?_); (repeat (refine SxNew.mk fun _ => ?_; (try refine sx_use ?_))))
    refine SxIf.dec (fun h3 => ?_) (fun h3 => ?_)
    · have hlt : k < li.length := by omega
      obtain ⟨x, hx⟩ : ∃ x, li[k]? = some x := ⟨li[k], by simp [hlt]⟩
      have hxm := List.mem_of_getElem? hx
      have htk : rcs ((li.take (k + 1)).map fewRl) = rcs ((li.take k).map fewRl) ++ rcC (fewRl x) := by
        rw [List.take_add_one, hx, List.map_append]
        unfold rcs
        rw [List.flatMap_append]
        simp
      ((try refine sx_use ?_); (repeat (refine SxNew.mk fun _ => ?_; (try refine sx_use ?_))))
      refine SxIA.rd 2 _ rfl k rfl (by omega) (by rw [hlen]; omega) fun g off ha => ?_
      ((try refine sx_use ?_); (repeat (refine SxNew.mk fun _ => ?_; (try refine sx_use ?_))))
      refine SxLdN.rd 2 rfl ha rfl (vs := rcC x) rfl (rcs_at hx) ?_
      ((try refine sx_use ?_); (repeat (refine SxNew.mk fun _ => ?_; (try refine sx_use ?_))))
      refine SxCall.quiet (fewv_any x.1 x.2.1 x.2.2 (hcap x hxm)) ?_
      ((try refine sx_use ?_); (repeat (refine SxNew.mk fun _ => ?_; (try refine sx_use ?_))))
      refine SxApp.mk 1 rfl 0 (.inr (.inr (.inr ⟨by decide, _, rfl⟩))) rfl rfl (by unfold maxLen; omega) (by omega) (cs' := rcs ((li.take (k + 1)).map fewRl)) (by rw [htk]; rfl) fun ao' cap' => ?_
      ((try refine sx_use ?_); (repeat (refine SxNew.mk fun _ => ?_; (try refine sx_use ?_))))
      exact SxRound.mk (k + 1, ao', cap') [1, 2, 3, 4] rfl rfl rfl hlt (by dsimp only; omega)
    all_goals
      obtain rfl : k = li.length := by omega
      rw [List.take_length]
      have hkl : li.length = (li.map fewRl).length := by rw [List.length_map]
      rw [hkl]
      have hll := rcs_len (li.map fewRl)
      have hlm : (rcs (li.map fewRl)).length ≤ maxLen := by rw [hll]; unfold maxLen; omega
      have hR' := few_rds hR
      ((try refine sx_use ?_); (repeat (refine SxNew.mk fun _ => ?_; (try refine sx_use ?_))))
      refine SxCall.newRow (v := fun ao' cap' => .tuple #[X.v ao' cap', .int .i64 c]) (fun w hs => hJ _ _ w (hs.rowRd 0 rfl hlm) (Rd.rows hs hR')) fun bo bcap => ?_
      ((try refine sx_use ?_); (repeat (refine SxNew.mk fun _ => ?_; (try refine sx_use ?_))))
      refine SxCall.newRow (v := fun ao' cap' => .tuple #[X.v ao' cap', .bool b]) (fun w hs => hRJ _ _ w (hs.rowRd 2 rfl hlm) (Rd.rows hs hR')) fun co ccap => ?_
      ((try refine sx_use ?_); (repeat (refine SxNew.mk fun _ => ?_; (try refine sx_use ?_))))
      refine SxCall.quietS (v := .bool true) (fun w hs => by
        have h := RRSame_any X X bo co bcap ccap w (hs.rowRd 3 rfl hXl) (hs.rowRd 1 rfl hXl) (by omega)
        rw [decide_eq_true rfl] at h
        exact h) ?_
      ((try refine sx_use ?_); (repeat (refine SxNew.mk fun _ => ?_; (try refine sx_use ?_))))
      refine SxRun.bNe Try.underlying4 ?_
      have hne : ((c == 0) != b) = false := by rw [hcb]; cases b <;> rfl
      rw [hne]
      clear hne hJ hRJ hcb
      cases b
      obtain rfl := hcb2 rfl
      all_goals
        clear hcb2
        ((try refine sx_use ?_); (repeat (refine SxNew.mk fun _ => ?_; (try refine sx_use ?_))))
        refine SxCall.quiet awake_any ?_
        ((try refine sx_use ?_); (repeat (refine SxNew.mk fun _ => ?_; (try refine sx_use ?_))))
        refine SxCode.loop (σ := List Rl × Option Addr × Nat) [15, 13, 14] [78, 79, 80, 81, 82, 83, 84, 85, 88, 89, 90, 91, 92, 16, 94, 95, 96, 97, 98, 99, 93, 100, 101, 17, 18, 102, 103, 6, 104, 105, 106, 13, 107, 108, 109, 110, 14, 86, 87, 15] (fun s => [.int .i64 (s.1.length : Nat), txV (catS ss s.1.length), .slice s.2.1 s.1.length s.2.2]) (fun s => .row s.2.1 s.1.length s.2.2 28 5 (rcs s.1) :: .rd to (ss.map .string) :: tailE s.1) (fun s => Mk ss s.1 ∧ s.1.length ≤ ss.length) (fun s => 8 - s.1.length) ([], none, 0) [5, 7] rfl rfl rfl rfl ⟨Mk.nil ss, Nat.zero_le _⟩ ?_
        rintro ⟨M, ao, cap⟩ ⟨hM, hMl⟩
        dsimp only at hM hMl ⊢
        have hle := hM.le
        have hcl := catS_len ss M.length
        have hlM := rcs_len M
        have hlmM : (rcs M).length ≤ maxLen := by rw [hlM]; unfold maxLen; omega
        ((try refine sx_use ?_); (repeat (refine SxNew.mk fun _ => ?_; (try refine sx_use ?_))))
        refine SxIf.dec (fun h2 => ?_) (fun h2 => ?_)
        ((try refine sx_use ?_); (repeat (refine SxNew.mk fun _ => ?_; (try refine sx_use ?_))))
        refine SxIf.dec (fun h3 => ?_) (fun h3 => ?_)
        · have hlt : M.length < ss.length := by omega
          obtain ⟨s, hs⟩ : ∃ s, ss[M.length]? = some s := ⟨ss[M.length], by simp [hlt]⟩
          have hsl : (cutL s.data.toList).length ≤ 400 := by unfold cutL; rw [List.length_take]; omega
          have hpm := part_may (cutL s.data.toList) hsl M.length (by omega)
          have hsn := hM.snoc (by omega) hs
          have hsv : (ss.map Value.string)[M.length]? = some (txV s.data.toList) := by rw [List.getElem?_map, hs]; rfl
          have hcs := catS_succ hs
          ((try refine sx_use ?_); (repeat (refine SxNew.mk fun _ => ?_; (try refine sx_use ?_))))
          refine SxIA.rd 1 _ rfl M.length rfl hlt (by rw [List.length_map, Nat.mul_one]; exact hlt) fun g off ha => ?_
          ((try refine sx_use ?_); (repeat (refine SxNew.mk fun _ => ?_; (try refine sx_use ?_))))
          refine SxLd.rd 1 rfl ha (by rw [Nat.mul_one]) hsv ?_
          ((try refine sx_use ?_); (repeat (refine SxNew.mk fun _ => ?_; (try refine sx_use ?_))))
          refine SxCall.quiet (cut_any s.data.toList) ?_
          ((try refine sx_use ?_); (repeat (refine SxNew.mk fun _ => ?_; (try refine sx_use ?_))))
          refine SxRng.u32 (by omega) (by omega) ?_
          ((try refine sx_use ?_); (repeat (refine SxNew.mk fun _ => ?_; (try refine sx_use ?_))))
          refine SxCall.newRd (v := fun ao' cap' => .tuple #[(partR (cutL s.data.toList) M.length).v ao' cap', .int .i64 0]) (n := 1) (e := 42) (k := 1) (cs := [u4V ((M.length : Int) + 1)]) (by simp [maxLen]) (fun w hs => by
            refine (Of_any partN (cutL s.data.toList) (by omega) [(M.length : Int) + 1] (by simp [partN, maxLen]) _ _ (by simp) w (hs.rowRd 0 rfl (by simp [maxLen]))).mono fun e w' h => h.1 hpm) fun bo bcap => ?_
          ((try refine sx_use ?_); (repeat (refine SxNew.mk fun _ => ?_; (try refine sx_use ?_))))
          refine SxLe.mk (by rw [mk_size, mk_size]; omega) ?_
          rw [mkr_append, ← hcs]
          ((try refine sx_use ?_); (repeat (refine SxNew.mk fun _ => ?_; (try refine sx_use ?_))))
          refine SxApp.mk 4 rfl 0 (.inr (.inr (.inr ⟨by decide, _, rfl⟩))) rfl rfl (by unfold maxLen; omega) (by omega) (cs' := rcs (M ++ [(partR (cutL s.data.toList) M.length, bo, bcap)])) (by unfold rcs; rw [List.flatMap_append]; rfl) fun ao' cap' => ?_
          ((try refine sx_use ?_); (repeat (refine SxNew.mk fun _ => ?_; (try refine sx_use ?_))))
          have hl1 : (M ++ [(partR (cutL s.data.toList) M.length, bo, bcap)]).length = M.length + 1 := by simp
          refine SxRound.mk (M ++ [(partR (cutL s.data.toList) M.length, bo, bcap)], ao', cap') ([4, 5, 2] ++ List.range' 6 (tailE M).length) (by dsimp only; rw [hl1]; rfl) (by dsimp only; rw [hl1, tailE_snoc]; exact pick6 _ _ _ _ _ _ _) (nodupB_tail 6 _ [4, 5, 2] rfl (by decide)) ⟨hsn bo bcap, by dsimp only; rw [hl1]; omega⟩ (by dsimp only; rw [hl1]; omega)
        all_goals
          obtain ⟨hok, hfit, hms⟩ := hM.whole
          have hjl : ((joinR wholeN M).ms.map u4V).length ≤ maxLen := by rw [List.length_map, hms]; unfold maxLen; omega
          ((try refine sx_use ?_); (repeat (refine SxNew.mk fun _ => ?_; (try refine sx_use ?_))))
          refine SxCall.newRow (v := fun ao' cap' => .tuple #[(joinR wholeN M).v ao' cap', .int .i64 0]) (fun w hs => (Join_any wholeN (by simp [wholeN, maxLen]) M (by omega) (fun x hx => by rw [hM.nm x hx]; simp [partN, maxLen]) (fun x hx => by rw [hM.ms x hx]; omega) ao cap w (hs.rowRd 0 rfl hlmM) (fun x hx => by
            obtain ⟨i, hi⟩ := tailE_mem hx
            exact hs.rd (i + 2) hi)).mono fun e w' h => h.1 hok) fun co ccap => ?_
          ((try refine sx_use ?_); (repeat (refine SxNew.mk fun _ => ?_; (try refine sx_use ?_))))
          refine SxCall.quietS (v := .bool true) (fun w hs => by
            have h := Fits_any (joinR wholeN M) (by simp [joinR, wholeN, maxLen]) (catS ss M.length) (by omega) co ccap w (hs.rowRd 1 rfl hjl)
            rw [hfit] at h
            exact h) ?_
          ((try refine sx_use ?_); (repeat (refine SxNew.mk fun _ => ?_; (try refine sx_use ?_))))
          exact SxDone.mk fun w' hs => ⟨by rw [hms, beq_self_eq_true]; rfl, hs.touch.below⟩
/-- Recipes that came in: the first of them. -/
theorem open_rcs {w : World} {v : Value} (hv : FitK Try.prog w 4 (.slice 28) v) :
    ∃ (lo : Option Addr) (n lc : Nat) (li : List Rl), v = .slice lo n lc ∧ li.length = min n 8 ∧ (∀ x ∈ li, x.1.ms.length ≤ x.2.2) ∧ Rd w lo (rcs li) ∧ ∀ x ∈ li, Rd w x.2.1 (x.1.ms.map u4V) := by
  obtain ⟨ao, n, cap, rfl, h1, h2, h3⟩ := hv
  obtain ⟨xs, hl, hrd, hx⟩ := h3 [.str, .int .i64, .int .i64, .int .i64, .slice 42] (by kernel_rfl) (by kernel_rfl)
  replace hl : xs.length = n * 5 := hl
  replace hx : ∀ i j k x, i < n → [CK.str, .int .i64, .int .i64, .int .i64, .slice 42][j]? = some k → xs[i * 5 + j]? = some x → FitK Try.prog w 3 k x := hx
  have each : ∀ i, i < min n 8 → ∃ x : Rl, (xs.drop (i * 5)).take 5 = rcC x ∧ x.1.ms.length ≤ x.2.2 ∧ Rd w x.2.1 (x.1.ms.map u4V) := by
    intro i hi
    have hfr : FitR Try.prog w 3 [.str, .int .i64, .int .i64, .int .i64, .slice 42] ((xs.drop (i * 5)).take 5) := by
      refine ⟨by rw [List.length_take, List.length_drop]; show _ = 5; omega, fun j k v hk hj => ?_⟩
      rw [List.getElem?_take] at hj
      split at hj
      · rw [List.getElem?_drop] at hj
        exact hx i j k v (by omega) hk hj
      · cases hj
    obtain ⟨r, bo, bcap, e1, e2, e3, _⟩ := open_rc hfr
    refine ⟨(r, bo, bcap), ?_, e2, e3⟩
    have h := congrArg (fun v => v.cells.toList) e1
    simp only [Value.cells] at h
    exact h
  let f : Nat → Rl := fun i => if h : i < min n 8 then Classical.choose (each i h) else (zrc, none, 0)
  have hf : ∀ i, i < min n 8 → (xs.drop (i * 5)).take 5 = rcC (f i) ∧ (f i).1.ms.length ≤ (f i).2.2 ∧ Rd w (f i).2.1 ((f i).1.ms.map u4V) := by
    intro i hi
    simp only [f, dif_pos hi]
    exact Classical.choose_spec (each i hi)
  have hrow : ∀ m, m ≤ min n 8 → rcs ((List.range m).map f) = xs.take (m * 5) := by
    intro m
    induction m with
    | zero => intro _; simp [rcs]
    | succ m ih =>
      intro hm
      rw [List.range_succ, List.map_append]
      unfold rcs at ih ⊢
      rw [List.flatMap_append, ih (by omega), show (m + 1) * 5 = m * 5 + 5 by omega, List.take_add, (hf m (by omega)).1]
      simp
  refine ⟨ao, n, cap, (List.range (min n 8)).map f, rfl, by simp, ?_, ?_, ?_⟩
  · intro x hxm
    obtain ⟨i, hi, rfl⟩ := List.mem_map.1 hxm
    exact (hf i (List.mem_range.1 hi)).2.1
  · rw [hrow _ (Nat.le_refl _)]
    refine ⟨by rw [List.length_take]; unfold maxLen; omega, fun hp => ?_⟩
    rw [List.length_take] at hp
    obtain ⟨g, off, e1, e2, e3⟩ := hrd (by omega)
    refine ⟨g, off, e1, e2, fun j hj => ?_⟩
    rw [List.length_take] at hj
    rw [e3 j (by omega), List.getElem?_take, if_pos (by omega)]
  · intro x hxm
    obtain ⟨i, hi, rfl⟩ := List.mem_map.1 hxm
    exact (hf i (List.mem_range.1 hi)).2.2
theorem RecipeJoins_law (w : World) (nm : ByteArray) (hn : nm.size ≤ maxLen) (v : Value) (hv : FitK Try.prog w 4 (.slice 28) v) (u : Value) (hu : FitK Try.prog w 4 (.slice 9) u) :
    Calls Try.prog 5 #[.string nm, v, u] w fun e w' => e = .returned (.bool true) ∧ Below w.heap.size w w' := by
  obtain ⟨lo, n, lc, li, rfl, h1, h2, h3, h4⟩ := open_rcs hv
  obtain ⟨to, m, tc, ss, rfl, g1, g2, rfl, g4, _⟩ := fitK_strs hu (by kernel_rfl) (by kernel_rfl)
  exact RecipeJoins_core w nm.data.toList hn n li h1 h2 lo lc h3 h4 ss to tc g4
end Go.Proofs.Ytbbngmlgpjepnaa

/- Plain: what the readers make of a manifest's bytes. The walk: Get. -/
import Derived.Test.YtdbappehchgbcaaGreatZMnD
namespace Go.Proofs.YtdbappehchgbcaaGreat
open Go.RowKit

def magL : List UInt8 := [77, 65, 78, 73]
def idOf (t : List UInt8) : Nat := leV ((t.drop 4).take 4)
def nOf (t : List UInt8) : Nat := leV ((t.drop 8).take 2)
def isMn (s : List UInt8) : Prop := ∃ id es, mayM id es ∧ putM id es = s
theorem idOf_lt (t : List UInt8) : idOf t < 4294967296 := leV_lt4 (by rw [List.length_take]; omega)
theorem nOf_lt (t : List UInt8) : nOf t < 65536 := leV_lt2 (by rw [List.length_take]; omega)
theorem parse_whole {id : Int} {es : List En} (hm : mayM id es) : (bodyM id es).take 4 = magL ∧ idOf (bodyM id es) = id.toNat ∧ nOf (bodyM id es) = es.length ∧ esOf ((bodyM id es).drop 10) es.length = es := by
  obtain ⟨⟨i1, i2⟩, n1, n2, hall⟩ := hm
  have e : bodyM id es = magL ++ (numL id.toNat 4 ++ (numL es.length 2 ++ es.flatMap enB)) := by unfold bodyM preM magL; simp only [List.append_assoc]
  have d4 : (bodyM id es).drop 4 = numL id.toNat 4 ++ (numL es.length 2 ++ es.flatMap enB) := by rw [e]; exact List.drop_left' rfl
  have d8 : (bodyM id es).drop 8 = numL es.length 2 ++ es.flatMap enB := by rw [show 8 = 4 + 4 from rfl, ← List.drop_drop, d4]; exact List.drop_left' (numL_len _ _)
  have d10 : (bodyM id es).drop 10 = es.flatMap enB := by rw [show 10 = 8 + 2 from rfl, ← List.drop_drop, d8]; exact List.drop_left' (numL_len _ _)
  refine ⟨by rw [e]; exact List.take_left' rfl, ?_, ?_, ?_⟩
  · unfold idOf; rw [d4, List.take_left' (numL_len _ _)]; exact leV_num _ 4 (by omega)
  · unfold nOf; rw [d8, List.take_left' (numL_len _ _)]; exact leV_num _ 2 (by omega)
  · rw [d10, esOf_flat es hall _ (Nat.le_refl _), List.take_length]
theorem parse_sound {t : List UInt8} (hm : t.take 4 = magL) (hl : t.length = 10 + 40 * nOf t) : bodyM (idOf t : Nat) (esOf (t.drop 10) (nOf t)) = t := by
  unfold bodyM preM
  rw [esOf_len, esOf_B _ _ (by rw [List.length_drop]; omega)]
  have h1 : numL ((idOf t : Nat) : Int).toNat 4 = (t.drop 4).take 4 := numL_take (by rw [List.length_take, List.length_drop]; omega)
  have h2 : numL (nOf t) 2 = (t.drop 8).take 2 := by
    have := numL_take (l := (t.drop 8).take 2) (k := 2) (by rw [List.length_take, List.length_drop]; omega)
    exact this
  rw [h1, h2, show ([77, 65, 78, 73] : List UInt8) = t.take 4 from hm.symm, ← List.take_add, ← List.take_add, ← List.take_add, List.take_of_length_le (by omega)]
theorem sizeM_two (n : Int) : sizeM n = 0 ∨ 54 ≤ sizeM n := by unfold sizeM; split <;> omega
theorem sealL_len4 (l : List UInt8) : (sealL l).length = l.length + 4 := by unfold sealL; rw [List.length_append, numL_len]
set_option maxHeartbeats 4000000 in
theorem MGet_any (s : List UInt8) (hs : s.length ≤ 1000000) (w : World) :
    Calls Tryz.prog 15 #[txV s] w fun e w' => (∀ id es, mayM id es → putM id es = s → ∃ ao cap, e = .returned (.tuple #[mnV id ao es.length cap, .int .i64 0]) ∧ NewRow w w' ao es.length cap 41 35 (enE.fl es)) ∧ (¬ isMn s → e = .returned (.tuple #[mnV 0 none 0 0, .int .i64 110]) ∧ Below w.heap.size w w') := by
  refine sx_fn (S := SX) (M := []) (N := 64) (H0 := [.row none 0 0 41 35 []]) Tryz.func15 rfl rfl rfl ((Sat.nil _ _).nilRow 41 35) ?_
  ((try refine sx_use ?_); (repeat (refine SxNew.mk fun _ => ?_; (try refine sx_use ?_))))
  rename_i b2
  refine SxCall.quiet (bcopen_any s hs) ?_
  ((try refine sx_use ?_); (repeat (refine SxNew.mk fun _ => ?_; (try refine sx_use ?_))))
  refine SxIf.ne (fun he => ?_) (fun he => ?_)
  · have hbad : ¬ isMn s := fun ⟨id, es, hm, h⟩ => he (by rw [← h]; unfold putM; rw [openL_seal])
    ((try refine sx_use ?_); (repeat (refine SxNew.mk fun _ => ?_; (try refine sx_use ?_))))
    exact SxDone.mk fun w' hs => ⟨fun id es hm h => absurd ⟨id, es, hm, h⟩ hbad, fun _ => ⟨rfl, hs.touch.below⟩⟩
  have hsl := openL_inv he
  have hop : ∀ id es, putM id es = s → (openL s).1 = bodyM id es := fun id es h => by rw [← h]; unfold putM; rw [openL_seal]
  have htl : s.length = (openL s).1.length + 4 := by rw [← sealL_len4, hsl]
  generalize (openL s).1 = t at hsl hop htl
  clear he
  ((try refine sx_use ?_); (repeat (refine SxNew.mk fun _ => ?_; (try refine sx_use ?_))))
  refine SxCall.mk fun w hs => (Read_sat hs ⟨t.toArray⟩).mono ?_
  rintro e w' ⟨g, rfl, hs'⟩
  refine ⟨_, [rdE g t 0, .blk b2 25 [.int .u32 0, .slice none 0 0], .row none 0 0 41 35 []], rfl, hs', ?_⟩
  clear hs' hs w'
  ((try refine sx_use ?_); (repeat (refine SxNew.mk fun _ => ?_; (try refine sx_use ?_))))
  rename_i b6
  obtain ⟨q1, h1⟩ : ∃ q, q = takeR 4 t 0 := ⟨_, rfl⟩
  obtain ⟨q2, h2⟩ : ∃ q, q = takeR 4 q1.2.1 q1.2.2 := ⟨_, rfl⟩
  obtain ⟨q3, h3⟩ : ∃ q, q = takeR 2 q2.2.1 q2.2.2 := ⟨_, rfl⟩
  have hq : 10 ≤ t.length → q1 = (t.take 4, t.drop 4, 0) ∧ q2 = ((t.drop 4).take 4, t.drop 8, 0) ∧ q3 = ((t.drop 8).take 2, t.drop 10, 0) := fun h => by
    have e1 : q1 = (t.take 4, t.drop 4, 0) := by rw [h1, takeR_ok (by omega)]
    have e2 : q2 = ((t.drop 4).take 4, t.drop 8, 0) := by rw [h2, e1]; exact takeR_at (by omega)
    have e3 : q3 = ((t.drop 8).take 2, t.drop 10, 0) := by rw [h3, e2]; exact takeR_at (by omega)
    exact ⟨e1, e2, e3⟩
  have hlt2 : leV q2.1 < 4294967296 := by rw [h2]; exact leV_take4 _ _
  have hlt3 : leV q3.1 < 65536 := by rw [h3]; exact leV_take2 _ _
  refine SxCall.sat [.blk b6 77 [.pointer (some ⟨g, 0, none⟩)], rdE g q1.2.1 q1.2.2, .blk b2 25 [.int .u32 0, .slice none 0 0], .row none 0 0 41 35 []] (fun w hs => by rw [h1]; exact Take_sat hs 1 g t 0 rfl 4 (by decide)) (v := txV q1.1) ?_
  ((try refine sx_use ?_); (repeat (refine SxNew.mk fun _ => ?_; (try refine sx_use ?_))))
  refine SxCall.sat [.blk b6 77 [.pointer (some ⟨g, 0, none⟩)], rdE g q2.2.1 q2.2.2, .blk b2 25 [.int .u32 0, .slice none 0 0], .row none 0 0 41 35 []] (fun w hs => by rw [h2]; exact U32_sat hs 1 g _ _ rfl) (v := .int .u32 (leV q2.1 : Nat)) ?_
  ((try refine sx_use ?_); (repeat (refine SxNew.mk fun _ => ?_; (try refine sx_use ?_))))
  rename_i b8
  refine SxCall.sat [.blk b8 25 [.int .u32 (leV q2.1 : Nat), .slice none 0 0], .blk b6 77 [.pointer (some ⟨g, 0, none⟩)], rdE g q3.2.1 q3.2.2, .blk b2 25 [.int .u32 0, .slice none 0 0], .row none 0 0 41 35 []] (fun w hs => by rw [h3]; exact U16_sat hs 2 g _ _ rfl) (v := .int .u16 (leV q3.1 : Nat)) ?_
  have bad : (∀ id es, mayM id es → t = bodyM id es → False) → ¬ isMn s := fun h ⟨id, es, hm, hp⟩ => h id es hm (hop id es hp)
  have hwh : ∀ id es, mayM id es → t = bodyM id es → q1.1 = magL ∧ leV q2.1 = id.toNat ∧ leV q3.1 = es.length ∧ t.length = 10 + 40 * es.length ∧ esOf (t.drop 10) es.length = es ∧ 1 ≤ es.length ∧ es.length ≤ 256 := fun id es hm ht => by
    have hl : t.length = 10 + 40 * es.length := by rw [ht, bodyM_len]
    obtain ⟨e1, e2, e3⟩ := hq (by omega)
    obtain ⟨p1, p2, p3, p4⟩ := parse_whole hm
    rw [← ht] at p1 p2 p3 p4
    exact ⟨by rw [e1]; exact p1, by rw [e2]; exact p2, by rw [e3]; exact p3, hl, p4, hm.2.1, hm.2.2.1⟩
  ((try refine sx_use ?_); (repeat (refine SxNew.mk fun _ => ?_; (try refine sx_use ?_))))
  refine SxIf.nt (SxIf.str (fun hm => ?_) (fun hm => ?_))
  rotate_left
  · have hbad := bad fun id es h1 h2 => hm (by show (⟨q1.1.toArray⟩ : ByteArray) = _; rw [(hwh id es h1 h2).1]; rfl)
    ((try refine sx_use ?_); (repeat (refine SxNew.mk fun _ => ?_; (try refine sx_use ?_))))
    exact SxDone.mk fun w' hs => ⟨fun id es hm h => absurd ⟨id, es, hm, h⟩ hbad, fun _ => ⟨rfl, hs.touch.below⟩⟩
  have hmag : q1.1 = magL := by
    have := congrArg (fun x : ByteArray => x.data.toList) hm
    simpa [magL] using this
  have hz := sizeM_two (leV q3.1 : Nat)
  have hss : (⟨s.toArray⟩ : ByteArray).size = s.length := mk_size s
  ((try refine sx_use ?_); (repeat (refine SxNew.mk fun _ => ?_; (try refine sx_use ?_))))
  refine SxCall.quiet (MSize_any (leV q3.1 : Nat)) ?_
  ((try refine sx_use ?_); (repeat (refine SxNew.mk fun _ => ?_; (try refine sx_use ?_))))
  refine SxIf.ne (fun he => ?_) (fun he => ?_)
  · have hbad := bad fun id es h1 h2 => he (by
      obtain ⟨_, _, p3, p4, _, p6, p7⟩ := hwh id es h1 h2
      rw [hss, p3, htl, p4]
      unfold sizeM
      rw [if_pos (by omega)]
      omega)
    ((try refine sx_use ?_); (repeat (refine SxNew.mk fun _ => ?_; (try refine sx_use ?_))))
    exact SxDone.mk fun w' hs => ⟨fun id es hm h => absurd ⟨id, es, hm, h⟩ hbad, fun _ => ⟨rfl, hs.touch.below⟩⟩
  rw [hss] at he
  have hn : 1 ≤ leV q3.1 ∧ leV q3.1 ≤ 256 ∧ t.length = 10 + 40 * leV q3.1 := by
    unfold sizeM at he
    split at he
    · omega
    · omega
  obtain ⟨hn1, hn2, htn⟩ := hn
  obtain ⟨e1, e2, e3⟩ := hq (by omega)
  have k1 : t.take 4 = magL := by rw [e1] at hmag; exact hmag
  have k2 : leV q2.1 = idOf t := by rw [e2]; rfl
  have k3 : leV q3.1 = nOf t := by rw [e3]; rfl
  have k4 : q3.2 = (t.drop 10, 0) := by rw [e3]
  have hsound := parse_sound k1 (by rw [← k3]; exact htn)
  rw [k2, k3, k4]
  rw [k3] at hn1 hn2 htn
  rw [k2] at hlt2
  clear e1 e2 e3 hm hz
  ((try refine sx_use ?_); (repeat (refine SxNew.mk fun _ => ?_; (try refine sx_use ?_))))
  refine SxCode.loop (σ := Nat × Option Addr × Nat) [43] [44, 45, 46, 47, 48, 49, 50, 51, 52, 43] (fun x => [.int .i64 (x.1 : Nat)]) (fun x => [.blk b8 25 [.int .u32 (idOf t : Nat), .slice x.2.1 x.1 x.2.2], .blk b6 77 [.pointer (some ⟨g, 0, none⟩)], rdE g (t.drop (10 + 40 * x.1)) 0, .blk b2 25 [.int .u32 0, .slice none 0 0], .row x.2.1 x.1 x.2.2 41 35 (enE.fl (esOf (t.drop 10) x.1))]) (fun x => x.1 ≤ nOf t) (fun x => nOf t - x.1) (0, none, 0) [0, 1, 2, 3, 4] rfl rfl rfl rfl (Nat.zero_le _) ?_
  rintro ⟨k, ko, kc⟩ hk
  dsimp only at hk ⊢
  ((try refine sx_use ?_); (repeat (refine SxNew.mk fun _ => ?_; (try refine sx_use ?_))))
  refine SxIf.dec (fun h => ?_) (fun h => ?_)
  · have hlt : k < nOf t := by omega
    ((try refine sx_use ?_); (repeat (refine SxNew.mk fun _ => ?_; (try refine sx_use ?_))))
    have hes : esOf (t.drop 10) (k + 1) = esOf (t.drop 10) k ++ [enOf (t.drop (10 + 40 * k))] := by rw [esOf, List.drop_drop]
    have hel := esOf_len (t.drop 10) k
    obtain ⟨x, hx⟩ : ∃ x, x = enOf (t.drop (10 + 40 * k)) := ⟨_, rfl⟩
    rw [← hx] at hes
    refine SxCode.draw rfl [.blk b8 25 [.int .u32 (idOf t : Nat), .slice ko k kc], .blk b6 77 [.pointer (some ⟨g, 0, none⟩)]] [7] [0, 1] rfl rfl ?_
    ((try refine sx_use ?_); (repeat (refine SxNew.mk fun _ => ?_; (try refine sx_use ?_))))
    refine SxCall.sat [.blk b8 25 [.int .u32 (idOf t : Nat), .slice ko k kc], .blk b6 77 [.pointer (some ⟨g, 0, none⟩)], rdE g (t.drop (10 + 40 * (k + 1))) 0, .blk b2 25 [.int .u32 0, .slice none 0 0], .row ko k kc 41 35 (enE.fl (esOf (t.drop 10) k))] (fun w hs => (entry_sat hs 2 g (t.drop (10 + 40 * k)) (by rw [List.length_drop]; omega) rfl).mono fun e w' hh => by
      have h2 := hh.2
      rw [List.drop_drop, show 10 + 40 * k + 40 = 10 + 40 * (k + 1) by omega] at h2
      rw [← hx] at hh
      exact ⟨hh.1, h2⟩) ?_
    ((try refine sx_use ?_); (repeat (refine SxNew.mk fun _ => ?_; (try refine sx_use ?_))))
    refine SxFill.one rfl (enC_len x) ?_
    ((try refine sx_use ?_); (repeat (refine SxNew.mk fun _ => ?_; (try refine sx_use ?_))))
    (try refine SxStable.mk [1, 2] rfl rfl ?_)
    (try ((try refine sx_use ?_); (repeat (refine SxNew.mk fun _ => ?_; (try refine sx_use ?_)))))
    refine SxApp.mk 5 rfl 0 (.inr (.inr (.inr ⟨by decide, _, rfl⟩))) (vs := enE.enc x) (m := 1) (enC_len x) (enC_one x) (by unfold maxLen; omega) (by omega) (cs' := enE.fl (esOf (t.drop 10) (k + 1))) (by rw [hes, enE.fl_append, enE.fl_one]) fun ao' cap' => ?_
    ((try refine sx_use ?_); (repeat (refine SxNew.mk fun _ => ?_; (try refine sx_use ?_))))
    exact SxRound.mk (k + 1, ao', cap') [1, 2, 3, 4, 5] rfl rfl rfl hlt (by dsimp only; omega)
  · obtain rfl : k = nOf t := by omega
    ((try refine sx_use ?_); (repeat (refine SxNew.mk fun _ => ?_; (try refine sx_use ?_))))
    refine SxCall.sat _ (fun w hs => End_sat hs 2 g _ 0 rfl) ?_
    have hnil : t.drop (10 + 40 * nOf t) = [] := List.drop_of_length_le (by omega)
    rw [hnil, show endE [] 0 = 0 from rfl]
    have hel := esOf_len (t.drop 10) (nOf t)
    ((try refine sx_use ?_); (repeat (refine SxNew.mk fun _ => ?_; (try refine sx_use ?_))))
    have hC := fun (w : World) (hs : Rd w ko (enE.fl (esOf (t.drop 10) (nOf t)))) => MCheck_any (idOf t : Nat) (esOf (t.drop 10) (nOf t)) ko kc w hs
    rw [hel] at hC
    refine SxCall.quietS (fun w hs => hC w (hs.rowRd 4 rfl (by rw [rowEn_len, hel]; unfold maxLen; omega))) ?_
    by_cases hmay : mayM (idOf t : Nat) (esOf (t.drop 10) (nOf t))
    · rw [if_pos hmay]
      have hput : putM (idOf t : Nat) (esOf (t.drop 10) (nOf t)) = s := by unfold putM; rw [hsound, hsl]
      ((try refine sx_use ?_); (repeat (refine SxNew.mk fun _ => ?_; (try refine sx_use ?_))))
      refine SxDone.mk fun w' hs => ⟨fun id es hm hp => ?_, fun hn => absurd ⟨_, _, hmay, hput⟩ hn⟩
      have ht := hop id es hp
      obtain ⟨p1, p2, p3, p4⟩ := parse_whole hm
      rw [← ht] at p1 p2 p3 p4
      have hid : ((idOf t : Nat) : Int) = id := by have := hm.1.1; omega
      rw [← p3] at p4
      rw [← hid, ← p4, hel]
      exact ⟨ko, kc, rfl, hs.newRow 4 rfl⟩
    · rw [if_neg hmay]
      have hbad := bad fun id es hm ht => hmay (by
        obtain ⟨p1, p2, p3, p4⟩ := parse_whole hm
        rw [← ht] at p1 p2 p3 p4
        have hid : ((idOf t : Nat) : Int) = id := by have := hm.1.1; omega
        rw [← p3] at p4
        rw [hid, p4]
        exact hm)
      ((try refine sx_use ?_); (repeat (refine SxNew.mk fun _ => ?_; (try refine sx_use ?_))))
      exact SxDone.mk fun w' hs => ⟨fun id es hm h => absurd ⟨id, es, hm, h⟩ hbad, fun _ => ⟨rfl, hs.touch.below⟩⟩
end Go.Proofs.YtdbappehchgbcaaGreat

/- The walk of layer 15: the document's Get. -/
import Derived.Test.YtdbappehchgbcaaZMnE
namespace Go.Proofs.Ytdbappehchgbcaa
open Go.RowKit

theorem takeS_at {n a : Nat} {s : List UInt8} (h : a + n ≤ s.length) : takeS n ⟨s.toArray⟩ a 0 = ((s.drop a).take n, a + n, 0) := by
  have hsz : (⟨s.toArray⟩ : ByteArray).size = s.length := mk_size s
  unfold takeS
  rw [if_neg (by simp), hsz, if_neg (by omega)]
theorem esOf_flat2 (es : List En) (h : allEn es) (rest : List UInt8) : ∀ k, k ≤ es.length → esOf (es.flatMap enB ++ rest) k = es.take k
  | 0, _ => by simp [esOf]
  | k + 1, hk => by
    obtain ⟨x, hx⟩ : ∃ x, es[k]? = some x := ⟨es[k], by simp⟩
    have hd : es.drop k = x :: es.drop (k + 1) := by
      rw [List.drop_eq_getElem_cons (by omega)]
      congr 1
      exact (List.getElem?_eq_some_iff.1 hx).2
    have hdr : (es.flatMap enB ++ rest).drop (40 * k) = enB x ++ ((es.drop (k + 1)).flatMap enB ++ rest) := by
      have e1 : es.flatMap enB = (es.take k).flatMap enB ++ (es.drop k).flatMap enB := by rw [← List.flatMap_append, List.take_append_drop]
      rw [e1, hd, List.flatMap_cons, List.append_assoc, List.append_assoc]
      exact List.drop_left' (by rw [flatE_len, List.length_take]; omega)
    rw [esOf, esOf_flat2 es h rest k (by omega), hdr, enOf_B (h x (List.mem_of_getElem? hx)), List.take_add_one, hx]; rfl
theorem put_parts {id : Int} {es : List En} (hm : mayM id es) : idOf (putM id es) = id.toNat ∧ nOf (putM id es) = es.length ∧ esOf ((putM id es).drop 10) es.length = es ∧ (putM id es).length = 14 + 40 * es.length := by
  obtain ⟨⟨i1, i2⟩, n1, n2, hall⟩ := hm
  have e : putM id es = magL ++ (numL id.toNat 4 ++ (numL es.length 2 ++ (es.flatMap enB ++ numL (crcMore 0 (bodyM id es)) 4))) := by unfold putM sealL; rw [show bodyM id es = magL ++ numL id.toNat 4 ++ numL es.length 2 ++ es.flatMap enB from rfl]; simp only [List.append_assoc]
  have d4 : (putM id es).drop 4 = numL id.toNat 4 ++ (numL es.length 2 ++ (es.flatMap enB ++ numL (crcMore 0 (bodyM id es)) 4)) := by rw [e]; exact List.drop_left' rfl
  have d8 : (putM id es).drop 8 = numL es.length 2 ++ (es.flatMap enB ++ numL (crcMore 0 (bodyM id es)) 4) := by rw [show 8 = 4 + 4 from rfl, ← List.drop_drop, d4]; exact List.drop_left' (numL_len _ _)
  have d10 : (putM id es).drop 10 = es.flatMap enB ++ numL (crcMore 0 (bodyM id es)) 4 := by rw [show 10 = 8 + 2 from rfl, ← List.drop_drop, d8]; exact List.drop_left' (numL_len _ _)
  refine ⟨?_, ?_, ?_, ?_⟩
  · unfold idOf; rw [d4, List.take_left' (numL_len _ _)]; exact leV_num _ 4 (by omega)
  · unfold nOf; rw [d8, List.take_left' (numL_len _ _)]; exact leV_num _ 2 (by omega)
  · rw [d10, esOf_flat2 es hall _ _ (Nat.le_refl _), List.take_length]
  · unfold putM; rw [sealL_len4, bodyM_len]; omega
theorem fill_step {f : List UInt8} {c : UInt8} {j : Nat} {T : List Value} (hj : j < 32) (hfl : f.length = 32) (hc : f[j]? = some c) :
    splice (0 + 0 + j * 1) [u8V c] ((f.take j).map u8V ++ (List.replicate (32 - j) (.int .u8 0) ++ T)) = (f.take (j + 1)).map u8V ++ (List.replicate (32 - (j + 1)) (.int .u8 0) ++ T) := by
  rw [show 0 + 0 + j * 1 = j + 0 by omega, splice_tail (n := j) (by rw [List.length_map, List.length_take]; omega), show 32 - j = (32 - (j + 1)) + 1 by omega, List.replicate_succ, List.cons_append, splice_front (n := 1) rfl, List.take_add_one, hc, List.map_append, List.append_assoc]
  rfl
set_option maxHeartbeats 4000000 in
theorem RMGet_any (s : List UInt8) (hs : s.length ≤ 1000000) (w : World) :
    Calls Try.prog 17 #[txV s] w fun e w' => (∀ id es, mayM id es → putM id es = s → ∃ ao cap, e = .returned (.tuple #[mnV id ao es.length cap, .bool true]) ∧ NewRow w w' ao es.length cap 55 35 (enE.fl es)) ∧ (¬ isMn s → e = .returned (.tuple #[mnV 0 none 0 0, .bool false]) ∧ Below w.heap.size w w') := by
  have hsz : (⟨s.toArray⟩ : ByteArray).size = s.length := mk_size s
  refine sx_fn (S := SX) (M := []) (N := 89) (H0 := [.row none 0 0 55 35 []]) Try.func17 rfl rfl rfl ((Sat.nil _ _).nilRow 55 35) ?_
  ((try refine sx_use ?_); (repeat (refine SxNew.mk fun _ => ?_; (try refine sx_use ?_))))
  rename_i b2 g
  obtain ⟨q1, h1⟩ : ∃ q, q = takeS 4 ⟨s.toArray⟩ 0 0 := ⟨_, rfl⟩
  obtain ⟨q2, h2⟩ : ∃ q, q = takeS 4 ⟨s.toArray⟩ q1.2.1 q1.2.2 := ⟨_, rfl⟩
  obtain ⟨q3, h3⟩ : ∃ q, q = takeS 2 ⟨s.toArray⟩ q2.2.1 q2.2.2 := ⟨_, rfl⟩
  have l1 : q1.2.1 ≤ s.length := by rw [h1]; exact takeS_le2 _ _ _ _ (Nat.zero_le _)
  have l2 : q2.2.1 ≤ s.length := by rw [h2]; exact takeS_le2 _ _ _ _ l1
  have l3 : q3.2.1 ≤ s.length := by rw [h3]; exact takeS_le2 _ _ _ _ l2
  have hq : 10 ≤ s.length → q1 = (s.take 4, 4, 0) ∧ q2 = ((s.drop 4).take 4, 8, 0) ∧ q3 = ((s.drop 8).take 2, 10, 0) := fun h => by
    have e1 : q1 = (s.take 4, 4, 0) := by rw [h1, takeS_at (by omega)]; rfl
    have e2 : q2 = ((s.drop 4).take 4, 8, 0) := by rw [h2, e1]; exact takeS_at (a := 4) (by omega)
    have e3 : q3 = ((s.drop 8).take 2, 10, 0) := by rw [h3, e2]; exact takeS_at (a := 8) (by omega)
    exact ⟨e1, e2, e3⟩
  have hlt2 : leV q2.1 < 4294967296 := by
    have := takeS_len 4 ⟨s.toArray⟩ q1.2.1 q1.2.2
    rw [← h2] at this
    exact leV_lt4 this
  have hlt3 : leV q3.1 < 65536 := by
    have := takeS_len 2 ⟨s.toArray⟩ q2.2.1 q2.2.2
    rw [← h3] at this
    exact leV_lt2 this
  have hmax : (⟨s.toArray⟩ : ByteArray).size ≤ maxLen := by rw [hsz]; unfold maxLen; omega
  refine SxCall.sat [rrE g ⟨s.toArray⟩ q1.2.1 q1.2.2, .blk b2 25 [.int .u32 0, .slice none 0 0], .row none 0 0 55 35 []] (fun w hs => by rw [h1]; exact RTake_sat hs 0 g ⟨s.toArray⟩ hmax 0 (Nat.zero_le _) 0 rfl 4 (by decide)) (v := txV q1.1) ?_
  ((try refine sx_use ?_); (repeat (refine SxNew.mk fun _ => ?_; (try refine sx_use ?_))))
  refine SxCall.sat [rrE g ⟨s.toArray⟩ q2.2.1 q2.2.2, .blk b2 25 [.int .u32 0, .slice none 0 0], .row none 0 0 55 35 []] (fun w hs => by rw [h2]; exact RNum_sat hs 0 g ⟨s.toArray⟩ hmax q1.2.1 (by rw [hsz]; exact l1) q1.2.2 rfl 4 (by decide)) (v := .int .u64 (leV q2.1 : Nat)) ?_
  ((try refine sx_use ?_); (repeat (refine SxNew.mk fun _ => ?_; (try refine sx_use ?_))))
  refine SxRng.u32 (by omega) (by omega) ?_
  ((try refine sx_use ?_); (repeat (refine SxNew.mk fun _ => ?_; (try refine sx_use ?_))))
  rename_i b8
  refine SxCall.sat [.blk b8 25 [.int .u32 (leV q2.1 : Nat), .slice none 0 0], rrE g ⟨s.toArray⟩ q3.2.1 q3.2.2, .blk b2 25 [.int .u32 0, .slice none 0 0], .row none 0 0 55 35 []] (fun w hs => by rw [h3]; exact RNum_sat hs 1 g ⟨s.toArray⟩ hmax q2.2.1 (by rw [hsz]; exact l2) q2.2.2 rfl 2 (by decide)) (v := .int .u64 (leV q3.1 : Nat)) ?_
  ((try refine sx_use ?_); (repeat (refine SxNew.mk fun _ => ?_; (try refine sx_use ?_))))
  have bad : (∀ id es, mayM id es → putM id es = s → False) → ¬ isMn s := fun h ⟨id, es, hm, hp⟩ => h id es hm hp
  have hwh : ∀ id es, mayM id es → putM id es = s → q3.2.2 = 0 ∧ leV q3.1 = es.length ∧ s.length = 14 + 40 * es.length ∧ 1 ≤ es.length ∧ es.length ≤ 256 := fun id es hm hp => by
    obtain ⟨p1, p2, p3, p4⟩ := put_parts hm
    rw [hp] at p1 p2 p3 p4
    obtain ⟨e1, e2, e3⟩ := hq (by omega)
    exact ⟨by rw [e3], by rw [e3]; exact p2, p4, hm.2.1, hm.2.2.1⟩
  refine SxIf.ne (fun g1 => ?_) (fun g1 => ?_)
  · have hbad := bad fun id es hm hp => by have := hwh id es hm hp; (try rw [hsz] at *); omega
    ((try refine sx_use ?_); (repeat (refine SxNew.mk fun _ => ?_; (try refine sx_use ?_))))
    exact SxDone.mk fun w' hs => ⟨fun id es hm h => absurd ⟨id, es, hm, h⟩ hbad, fun _ => ⟨rfl, hs.touch.below⟩⟩
  ((try refine sx_use ?_); (repeat (refine SxNew.mk fun _ => ?_; (try refine sx_use ?_))))
  refine SxIf.dec (fun g2 => ?_) (fun g2 => ?_)
  · have hbad := bad fun id es hm hp => by have := hwh id es hm hp; (try rw [hsz] at *); omega
    ((try refine sx_use ?_); (repeat (refine SxNew.mk fun _ => ?_; (try refine sx_use ?_))))
    exact SxDone.mk fun w' hs => ⟨fun id es hm h => absurd ⟨id, es, hm, h⟩ hbad, fun _ => ⟨rfl, hs.touch.below⟩⟩
  ((try refine sx_use ?_); (repeat (refine SxNew.mk fun _ => ?_; (try refine sx_use ?_))))
  refine SxIf.dec (fun g3 => ?_) (fun g3 => ?_)
  · have hbad := bad fun id es hm hp => by have := hwh id es hm hp; (try rw [hsz] at *); omega
    ((try refine sx_use ?_); (repeat (refine SxNew.mk fun _ => ?_; (try refine sx_use ?_))))
    exact SxDone.mk fun w' hs => ⟨fun id es hm h => absurd ⟨id, es, hm, h⟩ hbad, fun _ => ⟨rfl, hs.touch.below⟩⟩
  ((try refine sx_use ?_); (repeat (refine SxNew.mk fun _ => ?_; (try refine sx_use ?_))))
  refine SxIf.ne (fun g4 => ?_) (fun g4 => ?_)
  · have hbad := bad fun id es hm hp => by have := hwh id es hm hp; (try rw [hsz] at *); omega
    ((try refine sx_use ?_); (repeat (refine SxNew.mk fun _ => ?_; (try refine sx_use ?_))))
    exact SxDone.mk fun w' hs => ⟨fun id es hm h => absurd ⟨id, es, hm, h⟩ hbad, fun _ => ⟨rfl, hs.touch.below⟩⟩
  rw [hsz] at g4
  obtain ⟨e1, e2, e3⟩ := hq (by omega)
  have k2 : leV q2.1 = idOf s := by rw [e2]; rfl
  have k3 : leV q3.1 = nOf s := by rw [e3]; rfl
  have k4 : q3.2 = (10, 0) := by rw [e3]
  rw [k2, k3, k4]
  rw [k3] at g2 g3 g4
  rw [k2] at hlt2
  clear e1 e2 e3 g1
  ((try refine sx_use ?_); (repeat (refine SxNew.mk fun _ => ?_; (try refine sx_use ?_))))
  refine SxCode.loop (σ := Nat × Option Addr × Nat) [7, 3] [45, 46, 47, 50, 51, 8, 52, 53, 54, 55, 56, 57, 58, 59, 60, 61, 9, 10, 62, 63, 66, 67, 68, 69, 70, 71, 64, 65, 72, 73, 74, 75, 76, 77, 48, 49, 7] (fun x => [.int .i64 (x.1 : Nat), .bool false]) (fun x => [.blk b8 25 [.int .u32 (idOf s : Nat), .slice x.2.1 x.1 x.2.2], rrE g ⟨s.toArray⟩ (10 + 40 * x.1) 0, .blk b2 25 [.int .u32 0, .slice none 0 0], .row x.2.1 x.1 x.2.2 55 35 (enE.fl (esOf (s.drop 10) x.1))]) (fun x => x.1 ≤ nOf s) (fun x => nOf s - x.1) (0, none, 0) [0, 1, 2, 3] rfl rfl rfl rfl (Nat.zero_le _) ?_
  rintro ⟨k, ko, kc⟩ hk
  dsimp only at hk ⊢
  ((try refine sx_use ?_); (repeat (refine SxNew.mk fun _ => ?_; (try refine sx_use ?_))))
  refine SxIf.dec (fun h => ?_) (fun h => ?_)
  · have hlt : k < nOf s := by omega
    have hes : esOf (s.drop 10) (k + 1) = esOf (s.drop 10) k ++ [enOf (s.drop (10 + 40 * k))] := by rw [esOf, List.drop_drop]
    have hel := esOf_len (s.drop 10) k
    have b1 : leV ((s.drop (10 + 40 * k + 32)).take 2) < 65536 := leV_lt2 (by rw [List.length_take]; omega)
    have b3 : leV ((s.drop (10 + 40 * k + 32 + 2)).take 4) < 4294967296 := leV_lt4 (by rw [List.length_take]; omega)
    have b4 : leV ((s.drop (10 + 40 * k + 32 + 2 + 4)).take 2) < 65536 := leV_lt2 (by rw [List.length_take]; omega)
    ((try refine sx_use ?_); (repeat (refine SxNew.mk fun _ => ?_; (try refine sx_use ?_))))
    refine SxCall.sat [.blk b8 25 [.int .u32 (idOf s : Nat), .slice ko k kc], rrE g ⟨s.toArray⟩ (10 + 40 * k + 32) 0, .blk b2 25 [.int .u32 0, .slice none 0 0], .row ko k kc 55 35 (enE.fl (esOf (s.drop 10) k))] (fun w hs => by
      have h := RTake_sat hs 1 g ⟨s.toArray⟩ hmax (10 + 40 * k) (by rw [hsz]; omega) 0 rfl 32 (by decide)
      rw [takeS_at (by omega)] at h
      exact h) (v := txV ((s.drop (10 + 40 * k)).take 32)) ?_
    ((try refine sx_use ?_); (repeat (refine SxNew.mk fun _ => ?_; (try refine sx_use ?_))))
    refine SxCall.sat [.blk b8 25 [.int .u32 (idOf s : Nat), .slice ko k kc], rrE g ⟨s.toArray⟩ (10 + 40 * k + 32 + 2) 0, .blk b2 25 [.int .u32 0, .slice none 0 0], .row ko k kc 55 35 (enE.fl (esOf (s.drop 10) k))] (fun w hs => by
      have h := RNum_sat hs 1 g ⟨s.toArray⟩ hmax (10 + 40 * k + 32) (by rw [hsz]; omega) 0 rfl 2 (by decide)
      rw [takeS_at (by omega)] at h
      exact h) (v := .int .u64 (leV ((s.drop (10 + 40 * k + 32)).take 2) : Nat)) ?_
    ((try refine sx_use ?_); (repeat (refine SxNew.mk fun _ => ?_; (try refine sx_use ?_))))
    refine SxCall.sat [.blk b8 25 [.int .u32 (idOf s : Nat), .slice ko k kc], rrE g ⟨s.toArray⟩ (10 + 40 * k + 32 + 2 + 4) 0, .blk b2 25 [.int .u32 0, .slice none 0 0], .row ko k kc 55 35 (enE.fl (esOf (s.drop 10) k))] (fun w hs => by
      have h := RNum_sat hs 1 g ⟨s.toArray⟩ hmax (10 + 40 * k + 32 + 2) (by rw [hsz]; omega) 0 rfl 4 (by decide)
      rw [takeS_at (by omega)] at h
      exact h) (v := .int .u64 (leV ((s.drop (10 + 40 * k + 32 + 2)).take 4) : Nat)) ?_
    ((try refine sx_use ?_); (repeat (refine SxNew.mk fun _ => ?_; (try refine sx_use ?_))))
    refine SxRng.u32 (by omega) (by omega) ?_
    ((try refine sx_use ?_); (repeat (refine SxNew.mk fun _ => ?_; (try refine sx_use ?_))))
    refine SxCall.sat [.blk b8 25 [.int .u32 (idOf s : Nat), .slice ko k kc], rrE g ⟨s.toArray⟩ (10 + 40 * k + 32 + 2 + 4 + 2) 0, .blk b2 25 [.int .u32 0, .slice none 0 0], .row ko k kc 55 35 (enE.fl (esOf (s.drop 10) k))] (fun w hs => by
      have h := RNum_sat hs 1 g ⟨s.toArray⟩ hmax (10 + 40 * k + 32 + 2 + 4) (by rw [hsz]; omega) 0 rfl 2 (by decide)
      rw [takeS_at (by omega)] at h
      exact h) (v := .int .u64 (leV ((s.drop (10 + 40 * k + 32 + 2 + 4)).take 2) : Nat)) ?_
    ((try refine sx_use ?_); (repeat (refine SxNew.mk fun _ => ?_; (try refine sx_use ?_))))
    rename_i b9
    obtain ⟨f, hf⟩ : ∃ f, f = (s.drop (10 + 40 * k)).take 32 := ⟨_, rfl⟩
    have hfl : f.length = 32 := by rw [hf, List.length_take, List.length_drop]; omega
    rw [← hf]
    refine SxCode.loop (σ := Nat) [10] [62, 63, 66, 67, 68, 69, 70, 71, 64, 65, 10] (fun j => [.int .i64 (j : Nat)]) (fun j => [.blk b9 55 ((f.take j).map u8V ++ (List.replicate (32 - j) (.int .u8 0) ++ enT (leV ((s.drop (10 + 40 * k + 32)).take 2) : Nat) (leV ((s.drop (10 + 40 * k + 32 + 2)).take 4) : Nat) (leV ((s.drop (10 + 40 * k + 32 + 2 + 4)).take 2) : Nat))), .blk b8 25 [.int .u32 (idOf s : Nat), .slice ko k kc], rrE g ⟨s.toArray⟩ (10 + 40 * k + 32 + 2 + 4 + 2) 0, .blk b2 25 [.int .u32 0, .slice none 0 0], .row ko k kc 55 35 (enE.fl (esOf (s.drop 10) k))]) (fun j => j ≤ 32) (fun j => 32 - j) 0 [0, 1, 2, 3, 4] rfl rfl rfl rfl (by decide) ?_
    rintro j hj
    ((try refine sx_use ?_); (repeat (refine SxNew.mk fun _ => ?_; (try refine sx_use ?_))))
    refine SxIf.dec (fun h5 => ?_) (fun h5 => ?_)
    · have hjl : j < 32 := by omega
      obtain ⟨c, hc⟩ : ∃ c, f[j]? = some c := ⟨f[j]'(by omega), by simp [show j < f.length by omega]⟩
      have hfj : ((f.take j).map u8V).length = j := by rw [List.length_map, List.length_take]; omega
      ((try refine sx_use ?_); (repeat (refine SxNew.mk fun _ => ?_; (try refine sx_use ?_))))
      refine SxIdx.mk j rfl (by show j < f.length; omega) ?_
      ((try refine sx_use ?_); (repeat (refine SxNew.mk fun _ => ?_; (try refine sx_use ?_))))
      (try refine SxIdx.mk j rfl hjl ?_)
      (try ((try refine sx_use ?_); (repeat (refine SxNew.mk fun _ => ?_; (try refine sx_use ?_)))))
      have hgd : f.getD j 0 = c := by rw [List.getD_eq_getElem?_getD, hc]; rfl
      refine SxSt.blk 0 rfl (by rw [Nat.ble_eq, List.length_append, List.length_append, List.length_replicate, hfj]; show 0 + 0 + j * 1 + 1 ≤ j + (32 - j + 3); omega) rfl (cs' := (f.take (j + 1)).map u8V ++ (List.replicate (32 - (j + 1)) (.int .u8 0) ++ enT (leV ((s.drop (10 + 40 * k + 32)).take 2) : Nat) (leV ((s.drop (10 + 40 * k + 32 + 2)).take 4) : Nat) (leV ((s.drop (10 + 40 * k + 32 + 2 + 4)).take 2) : Nat))) (by rw [← fill_step hjl hfl hc, ← hgd]; rfl) ?_
      ((try refine sx_use ?_); (repeat (refine SxNew.mk fun _ => ?_; (try refine sx_use ?_))))
      exact SxRound.mk (j + 1) [0, 1, 2, 3, 4] rfl rfl rfl hjl (by omega)
    · obtain rfl : j = 32 := by omega
      ((try refine sx_use ?_); (repeat (refine SxNew.mk fun _ => ?_; (try refine sx_use ?_))))
      have hE : (f.take 32).map u8V ++ (List.replicate (32 - 32) (.int .u8 0) ++ enT (leV ((s.drop (10 + 40 * k + 32)).take 2) : Nat) (leV ((s.drop (10 + 40 * k + 32 + 2)).take 4) : Nat) (leV ((s.drop (10 + 40 * k + 32 + 2 + 4)).take 2) : Nat)) = enE.enc (enOf (s.drop (10 + 40 * k))) := by
        show _ = enC _
        unfold enC
        rw [enOf_fp (by rw [List.length_drop]; omega), ← hf, List.take_of_length_le (by omega)]
        unfold enOf
        dsimp only
        rw [List.drop_drop, List.drop_drop, List.drop_drop]
        rfl
      rw [hE]
      obtain ⟨x, hx⟩ : ∃ x, x = enOf (s.drop (10 + 40 * k)) := ⟨_, rfl⟩
      rw [← hx] at hes ⊢
      refine SxLdN.blk 0 rfl (vs := enE.enc x) (enE.len _) (rowEn_all _) ?_
      ((try refine sx_use ?_); (repeat (refine SxNew.mk fun _ => ?_; (try refine sx_use ?_))))
      refine SxFill.one rfl (enC_len x) ?_
      ((try refine sx_use ?_); (repeat (refine SxNew.mk fun _ => ?_; (try refine sx_use ?_))))
      refine SxApp.mk 5 rfl 0 (.inr (.inr (.inr ⟨by decide, _, rfl⟩))) (vs := enE.enc x) (m := 1) (enC_len x) (enC_one x) (by unfold maxLen; omega) (by omega) (cs' := enE.fl (esOf (s.drop 10) (k + 1))) (by rw [hes, enE.fl_append, enE.fl_one]) fun ao' cap' => ?_
      ((try refine sx_use ?_); (repeat (refine SxNew.mk fun _ => ?_; (try refine sx_use ?_))))
      exact SxRound.mk (k + 1, ao', cap') [2, 3, 4, 5] rfl (by rw [show 10 + 40 * k + 32 + 2 + 4 + 2 = 10 + 40 * (k + 1) by omega]; rfl) rfl hlt (by dsimp only; omega)
  · obtain rfl : k = nOf s := by omega
    have hel := esOf_len (s.drop 10) (nOf s)
    have hun : ∀ id es, mayM id es → putM id es = s → ((idOf s : Nat) : Int) = id ∧ esOf (s.drop 10) (nOf s) = es := fun id es hm hp => by
      obtain ⟨p1, p2, p3, p4⟩ := put_parts hm
      rw [hp] at p1 p2 p3 p4
      have := hm.1.1
      exact ⟨by omega, by rw [p2]; exact p3⟩
    ((try refine sx_use ?_); (repeat (refine SxNew.mk fun _ => ?_; (try refine sx_use ?_))))
    have hC := fun (w : World) (hs : Rd w ko (enE.fl (esOf (s.drop 10) (nOf s)))) => RMay_any (idOf s : Nat) (esOf (s.drop 10) (nOf s)) ko kc w hs
    rw [hel] at hC
    refine SxCall.quietS (fun w hs => hC w (hs.rowRd 3 rfl (by rw [rowEn_len, hel]; unfold maxLen; omega))) ?_
    by_cases hmay : mayM (idOf s : Nat) (esOf (s.drop 10) (nOf s))
    · rw [decide_eq_true hmay]
      ((try refine sx_use ?_); (repeat (refine SxNew.mk fun _ => ?_; (try refine sx_use ?_))))
      have hP := fun (w : World) (hs : Rd w ko (enE.fl (esOf (s.drop 10) (nOf s)))) => RMPut_any (idOf s : Nat) (esOf (s.drop 10) (nOf s)) hmay ko kc w hs
      rw [hel] at hP
      refine SxCall.quietS (fun w hs => hP w (hs.rowRd 3 rfl (by rw [rowEn_len, hel]; unfold maxLen; omega))) ?_
      ((try refine sx_use ?_); (repeat (refine SxNew.mk fun _ => ?_; (try refine sx_use ?_))))
      refine SxIf.nt (SxIf.str (fun hp => ?_) (fun hp => ?_))
      · have hput : putM (idOf s : Nat) (esOf (s.drop 10) (nOf s)) = s := by
          have := congrArg (fun x : ByteArray => x.data.toList) hp
          simpa using this
        ((try refine sx_use ?_); (repeat (refine SxNew.mk fun _ => ?_; (try refine sx_use ?_))))
        refine SxDone.mk fun w' hs => ⟨fun id es hm hp => ?_, fun hn => absurd ⟨_, _, hmay, hput⟩ hn⟩
        obtain ⟨e1, e2⟩ := hun id es hm hp
        rw [← e1, ← e2, hel]
        exact ⟨ko, kc, rfl, hs.newRow 3 rfl⟩
      · have hbad := bad fun id es hm hq => hp (by
          obtain ⟨e1, e2⟩ := hun id es hm hq
          rw [e1, e2, hq])
        ((try refine sx_use ?_); (repeat (refine SxNew.mk fun _ => ?_; (try refine sx_use ?_))))
        exact SxDone.mk fun w' hs => ⟨fun id es hm h => absurd ⟨id, es, hm, h⟩ hbad, fun _ => ⟨rfl, hs.touch.below⟩⟩
    · rw [decide_eq_false hmay]
      have hbad := bad fun id es hm hp => hmay (by
        obtain ⟨e1, e2⟩ := hun id es hm hp
        rw [e1, e2]
        exact hm)
      ((try refine sx_use ?_); (repeat (refine SxNew.mk fun _ => ?_; (try refine sx_use ?_))))
      exact SxDone.mk fun w' hs => ⟨fun id es hm h => absurd ⟨id, es, hm, h⟩ hbad, fun _ => ⟨rfl, hs.touch.below⟩⟩
end Go.Proofs.Ytdbappehchgbcaa

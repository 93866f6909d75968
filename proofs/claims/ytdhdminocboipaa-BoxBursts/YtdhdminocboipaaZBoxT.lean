/- The law of layer 14: BoxBursts. -/
import Derived.Test.YtdhdminocboipaaZBoxR
import Derived.Test.YtdhdminocboipaaZCrcX
import Derived.Test.YtdhdminocboipaaZCrcZ
namespace Go.Proofs.Ytdhdminocboipaa
open Go.RowKit

theorem RTurn_c (l : List UInt8) (h : l.length ≤ 1000000) (a : Nat) (ha : a ≤ 1000000000) (bits : Int) (hb : 0 ≤ bits ∧ bits < 4294967296) (w : World) :
    Calls Try.prog 13 #[txV l, .int .i64 (a : Nat), .int .u32 bits] w fun e w' => e = .returned (txV (turnL l a bits.toNat)) ∧ Below w.heap.size w w' := by
  have h1 := RTurn_any ⟨l.toArray⟩ h a (by omega) bits.toNat (by omega) w
  rw [show ((bits.toNat : Nat) : Int) = bits by omega] at h1
  exact h1
theorem set_flat : ∀ (ls : List (List UInt8)) (k : Nat) (x c : List UInt8), ls[k]? = some x → (ls.set k c).flatten = ls.flatten.take (lenSum (ls.take k)).toNat ++ c ++ ls.flatten.drop ((lenSum (ls.take k)).toNat + x.length)
  | [], k, x, c, h => by simp at h
  | y :: l, 0, x, c, h => by
    simp at h; subst h
    simp [lenSum, lenL]
  | y :: l, k + 1, x, c, h => by
    have ih := set_flat l k x c (by simpa using h)
    have h2 : (0 : Int) ≤ lenSum (l.take k) := by unfold lenSum; rw [← lenL_flat]; omega
    have h3 : (lenSum ((y :: l).take (k + 1))).toNat = y.length + (lenSum (l.take k)).toNat := by
      rw [List.take_succ_cons]
      unfold lenSum lenL at h2 ⊢
      rw [List.map_cons, List.sum_cons]
      omega
    rw [h3, List.set_cons_succ, List.flatten_cons, List.flatten_cons, ih, List.take_append, List.drop_append, List.take_of_length_le (l := y) (by omega), List.drop_of_length_le (l := y) (by omega), Nat.add_sub_cancel_left, show y.length + (lenSum (l.take k)).toNat + x.length - y.length = (lenSum (l.take k)).toNat + x.length by omega]
    simp
theorem set_lenL {ls : List (List UInt8)} {k : Nat} {x c : List UInt8} (h : ls[k]? = some x) (hc : c.length = x.length) : lenL ls = lenL (ls.set k c) := by
  unfold lenL
  rw [List.map_set, hc]
  apply List.ext_getElem?
  intro i
  rw [List.getElem?_set]
  by_cases hi : k = i
  · subst hi
    have hlt := (List.getElem?_eq_some_iff.1 h).1
    rw [if_pos rfl, if_pos (by simpa using hlt), List.getElem?_map, h]
    rfl
  · rw [if_neg hi]
theorem mix_eq (id : Int) (ls : List (List UInt8)) (k : Nat) (x c : List UInt8) (h : ls[k]? = some x) (f : Nat) (hf : fromV (slOf ls) k = f) :
    mixL id ls (ls.set k c) = (buildL id ls).take f ++ c ++ (buildL id ls).drop (f + x.length) := by
  have hs : (sealL (frontL id (slOf ls))).length = 14 + 6 * ls.length := by rw [sealL_len, frontL_len, slOf_len]; omega
  have h2 : (0 : Int) ≤ lenSum (ls.take k) := by unfold lenSum; rw [← lenL_flat]; omega
  have hq : f = (14 + 6 * ls.length) + (lenSum (ls.take k)).toNat := by
    unfold fromV at hf
    rw [slOf_len, slOf_take, sumS_slOf] at hf
    unfold lenSum at h2 ⊢
    omega
  unfold mixL buildL
  rw [set_flat ls k x c h, hq, List.take_append, List.drop_append, List.take_of_length_le (l := sealL (frontL id (slOf ls))) (by omega), List.drop_of_length_le (l := sealL (frontL id (slOf ls))) (by omega), hs, Nat.add_sub_cancel_left, show 14 + 6 * ls.length + (lenSum (ls.take k)).toNat + x.length - (14 + 6 * ls.length) = (lenSum (ls.take k)).toNat + x.length by omega]
  simp
set_option maxHeartbeats 4000000 in
theorem BoxBursts_core (w : World) (id : Int) (h0 : 0 ≤ id ∧ id < 4294967296) (ls : List (List UInt8)) (ao : Option Addr) (cap : Nat) (hr : Rd w ao (ls.map txV)) (slot : Nat) (hslot : slot < 256) (at_ : Nat) (hat : at_ < 65536) (bits : Int) (hbits : 0 ≤ bits ∧ bits < 4294967296) :
    Calls Try.prog 3 #[.int .u32 id, .slice ao ls.length cap, .int .u8 (slot : Nat), .int .u16 (at_ : Nat), .int .u32 bits] w fun e w' => e = .returned (.bool true) ∧ Below w.heap.size w w' := by
  obtain ⟨hf1, hf2⟩ := fewL_le ls
  refine sx_fn (S := SX) (M := []) (N := 115) (H0 := [.rd ao (ls.map txV)]) Try.func3 rfl rfl rfl (Sat.oneRd _ hr) ?_
  ((try refine sx_use ?_); (repeat (refine SxNew.mk fun _ => ?_; (try refine sx_use ?_))))
  refine SxCall.newRow (v := fun a c => .slice a (fewL ls).length c) (fun w hs => few_any ls ao cap w (hs.rd 0 rfl)) fun bo bcap => ?_
  generalize fewL ls = cs at hf1 hf2
  have hcl : (cs.map txV).length ≤ maxLen := by rw [List.length_map]; unfold maxLen; omega
  have hx : ∀ x ∈ cs, x.length < 65536 := fun x h => by have := hf2 x h; omega
  have hx2 : ∀ x ∈ cs, x.length ≤ 1000000 := fun x h => by have := hf2 x h; omega
  ((try refine sx_use ?_); (repeat (refine SxNew.mk fun _ => ?_; (try refine sx_use ?_))))
  have hC := fun (w : World) (hs : Rd w bo (cs.map txV)) => Check_any id cs bo bcap w hs (by omega)
  have hM := fun (w : World) (hs : Rd w bo (cs.map txV)) => May_any id cs bo bcap w hs (by omega)
  refine SxCall.quietS (fun w hs => hM w (hs.rowRd 0 rfl hcl)) ?_
  by_cases hm : mayB id cs = true
  · obtain ⟨p1, p2⟩ := may_one hm
    rw [hm]
    ((try refine sx_use ?_); (repeat (refine SxNew.mk fun _ => ?_; (try refine sx_use ?_))))
    have hkr : slot % cs.length < cs.length := Nat.mod_lt _ (by omega)
    obtain ⟨k, hk⟩ : ∃ k, k = slot % cs.length := ⟨_, rfl⟩
    have hki : ((slot : Nat) : Int) % ((cs.length : Nat) : Int) = (k : Nat) := by rw [hk]; rfl
    rw [← hk] at hkr
    rw [hki]
    obtain ⟨x, hxk⟩ : ∃ x, cs[k]? = some x := ⟨cs[k], by simp [hkr]⟩
    have hxl := hf2 x (List.mem_of_getElem? hxk)
    have hx1 : 1 ≤ x.length := by
      have hg := goodB_P (id := id) (sl := slOf cs) (by rw [good_slOf]; exact hm)
      have := hg.2.2.2.2.1 ((x.length : Int), crcI x) (List.mem_map.2 ⟨x, List.mem_of_getElem? hxk, rfl⟩)
      dsimp only at this
      omega
    ((try refine sx_use ?_); (repeat (refine SxNew.mk fun _ => ?_; (try refine sx_use ?_))))
    refine SxCode.drawAll rfl [] ?_
    ((try refine sx_use ?_); (repeat (refine SxNew.mk fun _ => ?_; (try refine sx_use ?_))))
    refine SxIA.row 0 _ _ _ rfl k rfl hkr fun g ha => ?_
    ((try refine sx_use ?_); (repeat (refine SxNew.mk fun _ => ?_; (try refine sx_use ?_))))
    refine SxLd.row 0 rfl ha (j := k) (by omega) (txV_get hxk) ?_
    have hsz : (⟨x.toArray⟩ : ByteArray).size = x.length := mk_size x
    ((try refine sx_use ?_); (repeat (refine SxNew.mk fun _ => ?_; (try refine sx_use ?_))))
    refine SxIA.row 0 _ _ _ rfl k rfl hkr fun g ha => ?_
    ((try refine sx_use ?_); (repeat (refine SxNew.mk fun _ => ?_; (try refine sx_use ?_))))
    refine SxLd.row 0 rfl ha (j := k) (by omega) (txV_get hxk) ?_
    ((try refine sx_use ?_); (repeat (refine SxNew.mk fun _ => ?_; (try refine sx_use ?_))))
    obtain ⟨q, hq⟩ : ∃ q : Nat, (at_ : Int) % (8 * ((⟨x.toArray⟩ : ByteArray).size : Nat)) = q ∧ q < 8 * x.length := ⟨at_ % (8 * x.length), by rw [hsz]; rfl, Nat.mod_lt _ (by omega)⟩
    obtain ⟨hq1, hq2⟩ := hq
    rw [hq1]
    refine SxCall.quiet (RTurn_c x (by omega) q (by omega) bits hbits) ?_
    refine SxStable.mk (allI _) (pickH_all _) (nodupB_all _) ?_
    ((try refine sx_use ?_); (repeat (refine SxNew.mk fun _ => ?_; (try refine sx_use ?_))))
    have hcln : (turnL x q bits.toNat).length = x.length := turnL_length _ _ _
    have hburst : turnL x q bits.toNat ≠ x → crcI (turnL x q bits.toNat) ≠ crcI x := fun h he => sum_burst x q bits.toNat h (by unfold crcI at he; omega)
    generalize turnL x q bits.toNat = c at hcln hburst
    refine SxCall.quietS (fun w hs => RBuild_any id h0 cs bo bcap w (hs.rowRd 0 rfl hcl) (by omega) hx) ?_
    ((try refine sx_use ?_); (repeat (refine SxNew.mk fun _ => ?_; (try refine sx_use ?_))))
    refine SxCall.newRow (v := fun ao cap => hdV id ao cs.length cap) (fun w hs => ROf_any id cs bo bcap w (hs.rowRd 0 rfl hcl) (by omega) hx2) fun eo ecap => ?_
    ((try refine sx_use ?_); (repeat (refine SxNew.mk fun _ => ?_; (try refine sx_use ?_))))
    have hP := goodB_P (id := id) (sl := slOf cs) (by rw [good_slOf]; exact hm)
    have hgx : (slOf cs)[k]? = some ((x.length : Int), crcI x) := by unfold slOf; rw [List.getElem?_map, hxk]; rfl
    have hfl : ((slOf cs).flatMap encS).length ≤ maxLen := by rw [flat_len encS 2 (fun _ => rfl), slOf_len]; unfold maxLen; omega
    have hW := fun (w : World) (hs : Rd w eo ((slOf cs).flatMap encS)) => RWhere_any id (slOf cs) hP.2.2.2.2.1 eo ecap w hs (by rw [slOf_len]; omega) k _ hgx
    rw [slOf_len] at hW
    refine SxCall.quietS (fun w hs => hW w (hs.rowRd 0 rfl hfl)) ?_
    ((try refine sx_use ?_); (repeat (refine SxNew.mk fun _ => ?_; (try refine sx_use ?_))))
    have hbm := mixed id cs cs hm rfl
    rw [← buildL_mix] at hbm
    have hin := from_in hbm.ok (i := k) (by rw [hbm.cnt]; exact hkr)
    rw [hbm.slots] at hin
    have hsp : (slotP (buildL id cs) k).1 = x.length := by
      have h1 := slH_get (buildL id cs) (i := k) (by rw [hbm.cnt]; exact hkr)
      rw [hbm.slots, hgx] at h1
      exact (congrArg Prod.fst (Option.some.inj h1)).symm
    rw [hsp] at hin
    obtain ⟨hin1, hin2, hin3, hin4⟩ := hin
    obtain ⟨f, hf⟩ : ∃ f : Nat, fromV (slOf cs) k = f := ⟨(fromV (slOf cs) k).toNat, by omega⟩
    have hbl : (buildL id cs).length ≤ 1000000 := by
      have h1 := (headFacts hbm.ok).all
      have h2 := (goodB_P (headFacts hbm.ok).good).2.2.2.2.2
      have h3 := (headFacts hbm.ok).cnt
      omega
    have hmix := mix_eq id cs k x c hxk f hf
    have hmx := mixed id cs (cs.set k c) hm (set_lenL hxk hcln)
    rw [hf] at hin4
    generalize hS : buildL id cs = S at hmix hin4 hbl
    have hSs : (⟨S.toArray⟩ : ByteArray).size = S.length := mk_size S
    refine SxCode.drawAll rfl [] ?_
    ((try refine sx_use ?_); (repeat (refine SxNew.mk fun _ => ?_; (try refine sx_use ?_))))
    refine SxBnd.mk 0 f rfl hf (Nat.zero_le _) (by omega) ?_
    have hex1 : (⟨S.toArray⟩ : ByteArray).extract 0 f = ⟨(S.take f).toArray⟩ := by rw [mk_extract]; simp
    rw [hex1]
    ((try refine sx_use ?_); (repeat (refine SxNew.mk fun _ => ?_; (try refine sx_use ?_))))
    have hs1 : (⟨(S.take f).toArray⟩ : ByteArray).size = f := by rw [mk_size, List.length_take]; omega
    have hs2 : (⟨c.toArray⟩ : ByteArray).size = x.length := by rw [mk_size]; exact hcln
    refine SxLe.mk (by omega) ?_
    ((try refine sx_use ?_); (repeat (refine SxNew.mk fun _ => ?_; (try refine sx_use ?_))))
    refine SxBnd.mk (f + x.length) S.length (by rw [hf]; rfl) rfl (by omega) (by omega) ?_
    have hex2 : (⟨S.toArray⟩ : ByteArray).extract (f + x.length) S.length = ⟨(S.drop (f + x.length)).toArray⟩ := by rw [mk_extract, List.take_length]
    rw [hex2]
    ((try refine sx_use ?_); (repeat (refine SxNew.mk fun _ => ?_; (try refine sx_use ?_))))
    have hs3 : (⟨(S.drop (f + x.length)).toArray⟩ : ByteArray).size = S.length - (f + x.length) := by rw [mk_size, List.length_drop]
    refine SxLe.mk (by rw [mk_append, mk_size, List.length_append, List.length_take, hs3]; omega) ?_
    have hsp2 : (⟨(S.take f).toArray⟩ : ByteArray) ++ ⟨c.toArray⟩ ++ ⟨(S.drop (f + x.length)).toArray⟩ = ⟨(mixL id cs (cs.set k c)).toArray⟩ := by rw [mk_append, mk_append, ← hmix]
    rw [hsp2]
    have hspl : (mixL id cs (cs.set k c)).length ≤ 1000000 := by rw [hmix, List.length_append, List.length_append, List.length_take, List.length_drop]; omega
    have hCh : ∀ (i : Nat) (y : List UInt8), cs[i]? = some y → (i ≠ k ∨ c = x → chunkV (mixL id cs (cs.set k c)) i = (y, 0)) ∧ (i = k → c ≠ x → chunkV (mixL id cs (cs.set k c)) i = ([], 110)) := by
      intro i y hy
      have hi := (List.getElem?_eq_some_iff.1 hy).1
      have hy' : (cs.set k c)[i]? = some (if i = k then c else y) := by
        rw [List.getElem?_set]
        by_cases hik : k = i
        · rw [if_pos hik, if_pos hkr, if_pos hik.symm]
        · rw [if_neg hik, if_neg (fun h => hik h.symm), hy]
      have hcr := hmx.crc hy hy'
      have hv : chunkV (mixL id cs (cs.set k c)) i = if crcOk (mixL id cs (cs.set k c)) i then (chunkL (mixL id cs (cs.set k c)) i, 0) else ([], 110) := by
        unfold chunkV; rw [if_pos hmx.ok, slotV_in _ (by rw [hmx.cnt]; exact hi)]
      rw [hv, hmx.chunk i _ hy']
      constructor
      · intro h
        by_cases hik : i = k
        · have hcx : c = x := h.resolve_left (fun hh => hh hik)
          subst hik
          have hxy := Option.some.inj (hxk.symm.trans hy)
          rw [if_pos (hcr.2 (by rw [if_pos rfl, hcx, hxy])), if_pos rfl, hcx, hxy]
        · rw [if_pos (hcr.2 (by rw [if_neg hik])), if_neg hik]
      · intro hik hne
        subst hik
        have hxy := Option.some.inj (hxk.symm.trans hy)
        rw [if_neg (fun h => hburst hne (by have := hcr.1 h; rw [if_pos rfl, ← hxy] at this; exact this))]
    generalize mixL id cs (cs.set k c) = sp at hspl hCh
    ((try refine sx_use ?_); (repeat (refine SxNew.mk fun _ => ?_; (try refine sx_use ?_))))
    refine SxCode.loop (σ := Nat) [17] [75, 76, 77, 78, 82, 83, 84, 81, 85, 86, 18, 19, 87, 88, 89, 90, 91, 92, 93, 94, 95, 96, 97, 98, 99, 100, 101, 102, 103, 10, 104, 105, 106, 107, 108, 109, 110, 111, 112, 113, 79, 80, 17] (fun j => [.int .i64 (j : Nat)]) (fun _ => [.row eo cs.length ecap 70 2 ((slOf cs).flatMap encS), .row bo cs.length bcap 9 1 (cs.map txV), .rd ao (ls.map txV)]) (fun j => j ≤ cs.length) (fun j => cs.length - j) 0 [0, 1, 2] rfl rfl rfl rfl (Nat.zero_le _) ?_
    rintro i hi
    ((try refine sx_use ?_); (repeat (refine SxNew.mk fun _ => ?_; (try refine sx_use ?_))))
    refine SxIf.dec (fun h => ?_) (fun h => ?_)
    · have hlt : i < cs.length := by omega
      obtain ⟨y, hy⟩ : ∃ y, cs[i]? = some y := ⟨cs[i], by simp [hlt]⟩
      obtain ⟨hA, hB⟩ := hCh i y hy
      have hCk := BChunk_any sp hspl i
      ((try refine sx_use ?_); (repeat (refine SxNew.mk fun _ => ?_; (try refine sx_use ?_))))
      by_cases hik : i = k
      · by_cases hcx : c = x
        · rw [hA (.inr hcx)] at hCk
          refine SxCall.quiet hCk ?_
          ((try refine sx_use ?_); (repeat (refine SxNew.mk fun _ => ?_; (try refine sx_use ?_))))
          refine SxIA.row 1 _ _ _ rfl k rfl hkr fun g ha => ?_
          ((try refine sx_use ?_); (repeat (refine SxNew.mk fun _ => ?_; (try refine sx_use ?_))))
          refine SxLd.row 1 rfl ha (j := k) (by omega) (txV_get hxk) ?_
          ((try refine sx_use ?_); (repeat (refine SxNew.mk fun _ => ?_; (try refine sx_use ?_))))
          refine SxIf.nt (SxIf.strT (by rw [hcx]) ?_)
          ((try refine sx_use ?_); (repeat (refine SxNew.mk fun _ => ?_; (try refine sx_use ?_))))
          refine SxIA.row 1 _ _ _ rfl i rfl hlt fun g ha => ?_
          ((try refine sx_use ?_); (repeat (refine SxNew.mk fun _ => ?_; (try refine sx_use ?_))))
          refine SxLd.row 1 rfl ha (j := i) (by omega) (txV_get hy) ?_
          ((try refine sx_use ?_); (repeat (refine SxNew.mk fun _ => ?_; (try refine sx_use ?_))))
          refine SxIf.nt (SxIf.strT rfl ?_)
          ((try refine sx_use ?_); (repeat (refine SxNew.mk fun _ => ?_; (try refine sx_use ?_))))
          exact SxRound.mk (i + 1) [0, 1, 2] rfl rfl rfl hlt (by omega)
        · rw [hB hik hcx] at hCk
          refine SxCall.quiet hCk ?_
          ((try refine sx_use ?_); (repeat (refine SxNew.mk fun _ => ?_; (try refine sx_use ?_))))
          refine SxIA.row 1 _ _ _ rfl k rfl hkr fun g ha => ?_
          ((try refine sx_use ?_); (repeat (refine SxNew.mk fun _ => ?_; (try refine sx_use ?_))))
          refine SxLd.row 1 rfl ha (j := k) (by omega) (txV_get hxk) ?_
          ((try refine sx_use ?_); (repeat (refine SxNew.mk fun _ => ?_; (try refine sx_use ?_))))
          refine SxIf.nt (SxIf.strF (fun h => hcx (mk_inj h)) ?_)
          ((try refine sx_use ?_); (repeat (refine SxNew.mk fun _ => ?_; (try refine sx_use ?_))))
          refine SxIf.nt (SxIf.strT rfl ?_)
          ((try refine sx_use ?_); (repeat (refine SxNew.mk fun _ => ?_; (try refine sx_use ?_))))
          exact SxRound.mk (i + 1) [0, 1, 2] rfl rfl rfl hlt (by omega)
      · rw [hA (.inl hik)] at hCk
        refine SxCall.quiet hCk ?_
        ((try refine sx_use ?_); (repeat (refine SxNew.mk fun _ => ?_; (try refine sx_use ?_))))
        refine SxIA.row 1 _ _ _ rfl i rfl hlt fun g ha => ?_
        ((try refine sx_use ?_); (repeat (refine SxNew.mk fun _ => ?_; (try refine sx_use ?_))))
        refine SxLd.row 1 rfl ha (j := i) (by omega) (txV_get hy) ?_
        ((try refine sx_use ?_); (repeat (refine SxNew.mk fun _ => ?_; (try refine sx_use ?_))))
        refine SxIf.nt (SxIf.strT rfl ?_)
        ((try refine sx_use ?_); (repeat (refine SxNew.mk fun _ => ?_; (try refine sx_use ?_))))
        exact SxRound.mk (i + 1) [0, 1, 2] rfl rfl rfl hlt (by omega)
    · ((try refine sx_use ?_); (repeat (refine SxNew.mk fun _ => ?_; (try refine sx_use ?_))))
      refine SxCall.quiet awake_any ?_
      ((try refine sx_use ?_); (repeat (refine SxNew.mk fun _ => ?_; (try refine sx_use ?_))))
      exact SxDone.mk fun w' hs => ⟨rfl, hs.touch.below⟩
  · rw [show mayB id cs = false by simpa using hm] at hC ⊢
    ((try refine sx_use ?_); (repeat (refine SxNew.mk fun _ => ?_; (try refine sx_use ?_))))
    refine SxCall.quietS (fun w hs => hC w (hs.rowRd 0 rfl hcl)) ?_
    ((try refine sx_use ?_); (repeat (refine SxNew.mk fun _ => ?_; (try refine sx_use ?_))))
    refine SxCall.quiet awake_any ?_
    ((try refine sx_use ?_); (repeat (refine SxNew.mk fun _ => ?_; (try refine sx_use ?_))))
    exact SxDone.mk fun w' hs => ⟨rfl, hs.touch.below⟩
theorem BoxBursts_law (w : World) (id : Nat) (h0 : id < 4294967296) (v : Value) (hv : FitK Try.prog w 4 (.slice 9) v) (slot : Nat) (hslot : slot < 256) (at_ : Nat) (hat : at_ < 65536) (bits : Nat) (hbits : bits < 4294967296) :
    Calls Try.prog 3 #[.int .u32 (id : Nat), v, .int .u8 (slot : Nat), .int .u16 (at_ : Nat), .int .u32 (bits : Nat)] w fun e w' => e = .returned (.bool true) ∧ Below w.heap.size w w' := by
  obtain ⟨ao, cap, ls, rfl, h1, h2⟩ := open_chunks hv
  exact BoxBursts_core w id (by omega) ls ao cap h2 slot hslot at_ hat bits (by omega)
end Go.Proofs.Ytdhdminocboipaa

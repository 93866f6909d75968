/- Layer 19: MatchFinds. -/
import Derived.Test.YtipmmknecadkkaaZMtK
namespace Go.Proofs.Ytipmmknecadkkaa
open Go.RowKit

/-- The law's words, ahead: what is few. -/
theorem tlR_ok (ks : List Rk) (hsl : ∀ (i : Nat) (r : Rk), ks[i]? = some r → r.en.sl = i) (ko : Option Addr) (kc gb : Nat) (w : World) (h1 : Rd w (some ⟨gb, 0, none⟩) [.slice ko ks.length kc]) (hk : Rd w ko (rkE.fl ks)) :
    ∀ (i : Nat) (x : En), (knR ks)[i]? = some x → ∀ w1, Below w.heap.size w w1 → Calls Try.prog byN (byArgs gb x) w1 fun e w' => e = .returned (.tuple #[.string (tlR ks i).1, .bool (tlR ks i).2]) ∧ Below w1.heap.size w1 w' := by
  intro i x hx w1 hb
  unfold knR at hx
  rw [List.getElem?_map] at hx
  cases hr : ks[i]? with
  | none => rw [hr] at hx; cases hx
  | some r =>
    rw [hr] at hx
    simp only [Option.map_some, Option.some.injEq] at hx
    subst hx
    exact teller_any ks i r.en (hsl i r hr) r hr ko kc gb w1 (h1.kept hb) (hk.kept hb)
theorem rksOf_sl (l : List Kw) (i : Nat) (r : Rk) (h : (rksOf l)[i]? = some r) : r.en.sl = i := by
  unfold rksOf at h
  rw [List.getElem?_map, List.getElem?_zipIdx] at h
  cases hx : l[i]? with
  | none => rw [hx] at h; cases h
  | some x =>
    rw [hx] at h
    simp only [Option.map_some, Option.some.injEq] at h
    subst h
    simp [Kw.en]
theorem Found_any (cs : List ByteArray) (hcl : cs.length ≤ 12) (hcs : ∀ c ∈ cs, c.size ≤ 100) (ks : List Rk) (hkl : ks.length ≤ 12) (hsl : ∀ (i : Nat) (r : Rk), ks[i]? = some r → r.en.sl = i) (so eo ko : Option Addr) (sc ec kc gb : Nat) (w : World) (hr : Rd w so (strE.fl cs)) (he : Rd w eo (enE.fl (knR ks))) (h1 : Rd w (some ⟨gb, 0, none⟩) [.slice ko ks.length kc]) (hk : Rd w ko (rkE.fl ks)) :
    Calls Try.prog 8 #[.slice so cs.length sc, .slice eo ks.length ec, byVal gb] w fun e w' => ∃ ao' cap', e = .returned (.slice ao' cs.length cap') ∧ NewRow w w' ao' cs.length cap' 36 2 (fdE.fl (docF cs ks cs.length)) := by
  have h := Segment_any cs (by omega) (fun c hc => by have := hcs c hc; omega) (knR ks) (by rw [knR_len]; omega) (tlR ks) so eo sc ec gb w hr he (tlR_ok ks hsl ko kc gb w h1 hk)
  rw [seg_docF, knR_len] at h
  exact h
theorem RSeg_any (cs : List ByteArray) (hcl : cs.length ≤ 12) (hcs : ∀ c ∈ cs, c.size ≤ 100) (ks : List Rk) (hkl : ks.length ≤ 12) (so ko : Option Addr) (sc kc : Nat) (w : World) (hr : Rd w so (strE.fl cs)) (hk : Rd w ko (rkE.fl ks)) :
    Calls Try.prog 11 #[.slice so cs.length sc, .slice ko ks.length kc] w fun e w' => ∃ ao' cap', e = .returned (.slice ao' cs.length cap') ∧ NewRow w w' ao' cs.length cap' 51 2 (fdE.fl (docF cs ks cs.length)) := by
  refine sx_fn (S := SX) (M := []) (N := 10) (H0 := [.rd so (strE.fl cs), .rd ko (rkE.fl ks)]) Try.func11 rfl rfl rfl (Sat.twoRd _ hr hk) ?_
  ((try refine sx_use ?_); (repeat (refine SxNew.mk fun _ => ?_; (try refine sx_use ?_))))
  refine SxCall.newRow (fun w1 hs => RFps_any cs (by omega) (fun c hc => by have := hcs c hc; omega) so sc w1 (hs.rd 0 rfl)) fun fo fc => ?_
  ((try refine sx_use ?_); (repeat (refine SxNew.mk fun _ => ?_; (try refine sx_use ?_))))
  refine SxCall.newRow (fun w1 hs => RFind_any cs (by omega) ks (by omega) so fo ko sc fc kc w1 (hs.rd 1 rfl) (hs.rowRd 0 rfl (by rw [fqE_len, List.length_map]; unfold maxLen; omega)) (hs.rd 2 rfl)) fun ao cap => ?_
  ((try refine sx_use ?_); (repeat (refine SxNew.mk fun _ => ?_; (try refine sx_use ?_))))
  exact SxDone.mk fun w' hs => ⟨ao, cap, rfl, hs.newRow 0 rfl⟩
theorem newsK_succ {fs : List (Int × Int)} {k : Nat} {x : Int × Int} (h : fs[k]? = some x) : newsK fs (k + 1) = if freshB x then newsK fs k ++ [k] else newsK fs k := by rw [newsK, h]
theorem newsK_pre (fs : List (Int × Int)) (k : Nat) : ∀ d, newsK fs k <+: newsK fs (k + d)
  | 0 => List.prefix_refl _
  | d + 1 => by
    refine List.IsPrefix.trans (newsK_pre fs k d) ?_
    rw [← Nat.add_assoc]
    cases hx : fs[k + d]? with
    | none => rw [newsK, hx]; exact List.prefix_refl _
    | some x =>
      rw [newsK_succ hx]
      split
      · exact List.prefix_append _ _
      · exact List.prefix_refl _
theorem newsK_at {fs : List (Int × Int)} {k n : Nat} {x : Int × Int} (hx : fs[k]? = some x) (hf : freshB x = true) (hk : k < n) : (newsK fs n)[(newsK fs k).length]? = some k := by
  obtain ⟨d, rfl⟩ : ∃ d, n = k + 1 + d := ⟨n - (k + 1), by omega⟩
  obtain ⟨t, ht⟩ := newsK_pre fs (k + 1) d
  rw [← ht, newsK_succ hx, if_pos hf, List.append_assoc, List.getElem?_append_right (Nat.le_refl _), Nat.sub_self]
  rfl
theorem kindN_two {x : Int × Int} : kindN x = 2 ↔ freshB x = true := by
  unfold kindN freshB
  rw [Bool.and_eq_true, decide_eq_true_iff, decide_eq_true_iff]
  split
  · simp; omega
  · split
    · simp; omega
    · simp; omega
set_option maxHeartbeats 16000000 in
theorem MatchFinds_law (w : World) (v1 : Value) (hv1 : FitK Try.prog w 4 (.slice 9) v1) (v2 : Value) (hv2 : FitK Try.prog w 4 (.slice 60) v2) :
    Calls Try.prog 4 #[v1, v2] w fun e w' => e = .returned (.bool true) ∧ Below w.heap.size w w' := by
  obtain ⟨so, n, sc, rfl, hn, cs, hcs, hsr⟩ := open_strs hv1
  obtain ⟨bo, m, bc, rfl, hm, kws, hks, hkr⟩ := open_kws hv2
  clear hv1 hv2
  unfold maxLen at hn hm
  refine sx_fn (S := SX) (M := []) (H0 := [.rd so (strE.fl cs), .rd bo (kwE.fl kws)]) (N := 183) Try.func4 rfl rfl rfl (Sat.twoRd _ hsr hkr) ?_
  ((try refine sx_use ?_); (repeat (refine SxNew.mk fun _ => ?_; (try refine sx_use ?_))))
  refine SxCall.quietP (fun w1 hs => few19_any cs kws n m hcs hks so bo sc bc w1 (hs.rd 0 rfl) (hs.rd 1 rfl)) ?_
  rintro v ⟨b, rfl, hb⟩
  ((try refine sx_use ?_); (repeat (refine SxNew.mk fun _ => ?_; (try refine sx_use ?_))))
  refine SxIf.nt ⟨fun hg => ?_, fun hg => ?_⟩
  case' refine_2 =>
    ((try refine sx_use ?_); (repeat (refine SxNew.mk fun _ => ?_; (try refine sx_use ?_))))
    refine SxCall.quiet mt_awake ?_
    ((try refine sx_use ?_); (repeat (refine SxNew.mk fun _ => ?_; (try refine sx_use ?_))))
    exact SxDone.mk fun w' hs => ⟨rfl, hs.touch.below⟩
  obtain ⟨hn12, hm12, hcz, hkz⟩ := hb hg
  clear hb
  obtain rfl : n = cs.length := by omega
  obtain rfl : m = kws.length := by omega
  obtain ⟨ks, hks2⟩ : ∃ ks, ks = rksOf kws := ⟨_, rfl⟩
  have hkl : ks.length = kws.length := by rw [hks2, rksOf_len]
  have hsl : ∀ (i : Nat) (r : Rk), ks[i]? = some r → r.en.sl = i := fun i r h => by rw [hks2] at h; exact rksOf_sl kws i r h
  have hdl := docF_len cs ks cs.length (Nat.le_refl _)
  ((try refine sx_use ?_); (repeat (refine SxNew.mk fun _ => ?_; (try refine sx_use ?_))))
  refine SxCall.at (fun w1 hs => known_any kws (by omega) hkz bo bc w1 (hs.rd 1 rfl)) fun w1 e w' hs ⟨ko, kc, eo, ec, h1, h2, h3⟩ => ⟨_, _, h1, Sat.twoNew hs h2 h3 (by rw [rkE_len, rksOf_len]; unfold maxLen; omega) (by rw [enE_len1, knR_len, rksOf_len]; unfold maxLen; omega), ?_⟩
  rw [← hks2, ← hkl]
  ((try refine sx_use ?_); (repeat (refine SxNew.mk fun _ => ?_; (try refine sx_use ?_))))
  refine SxCall.teller19 fun gb => ?_
  ((try refine sx_use ?_); (repeat (refine SxNew.mk fun _ => ?_; (try refine sx_use ?_))))
  obtain ⟨D, hD⟩ : ∃ D, D = docF cs ks cs.length := ⟨_, rfl⟩
  rw [← hD] at hdl
  refine SxCall.newRow (fun w1 hs => Found_any cs hn12 hcz ks (by omega) hsl so eo ko sc ec kc gb w1 (hs.rd 3 rfl) (hs.rd 2 rfl) (Rd.of_blk (hs.blk 0 rfl) (by show 1 ≤ maxLen; decide)) (hs.rd 1 rfl)) fun fo fc => ?_
  ((try refine sx_use ?_); (repeat (refine SxNew.mk fun _ => ?_; (try refine sx_use ?_))))
  refine SxCall.newRow (fun w1 hs => RSeg_any cs hn12 hcz ks (by omega) so ko sc kc w1 (hs.rd 4 rfl) (hs.rd 2 rfl)) fun go_ gc => ?_
  rw [← hD]
  ((try refine sx_use ?_); (repeat (refine SxNew.mk fun _ => ?_; (try refine sx_use ?_))))
  have hF : ∀ w1, Rd w1 so (strE.fl cs) → Calls Try.prog 12 #[.slice so cs.length sc] w1 fun e w' => ∃ ao' cap', e = .returned (.slice ao' cs.length cap') ∧ NewRow w1 w' ao' cs.length cap' 38 32 (fqE.fl (cs.map bFq)) := fun w1 h1 => by
    have h2 := Fps_any cs (by omega) (fun c hc => by have := hcz c hc; omega) so sc w1 h1
    rw [List.length_map] at h2
    exact h2
  have hN : ∀ w1, Rd w1 fo (fdE.fl D) → Calls Try.prog 13 #[.slice fo cs.length fc] w1 fun e w' => ∃ ao' cap', e = .returned (.slice ao' (newsK D cs.length).length cap') ∧ NewRow w1 w' ao' (newsK D cs.length).length cap' 3 1 (natE.fl (newsK D cs.length)) := fun w1 h1 => by
    have h2 := News_any D (by omega) fo fc w1 h1
    rw [hdl] at h2
    exact h2
  refine SxCall.newRow (fun w1 hs => hF w1 (hs.rd 5 rfl)) fun po pc => ?_
  ((try refine sx_use ?_); (repeat (refine SxNew.mk fun _ => ?_; (try refine sx_use ?_))))
  refine SxCall.newRow (fun w1 hs => hN w1 (hs.rowRd 2 rfl (by rw [fdE_len]; unfold maxLen; omega))) fun no nc => ?_
  ((try refine sx_use ?_); (repeat (refine SxNew.mk fun _ => ?_; (try refine sx_use ?_))))
  obtain ⟨ns, hns⟩ : ∃ ns, ns = newsK D cs.length := ⟨_, rfl⟩
  have hnl := newsK_len D cs.length
  rw [← hns] at hnl ⊢
  clear hF hN
  refine SxCode.loop (σ := Nat) [12, 11, 4] [53, 54, 55, 56, 59, 60, 61, 62, 63, 64, 65, 66, 67, 68, 69, 70, 71, 72, 73, 74, 75, 76, 77, 78, 79, 80, 81, 82, 83, 84, 85, 86, 87, 88, 89, 90, 91, 92, 93, 94, 4, 95, 96, 97, 98, 99, 100, 101, 102, 103, 104, 105, 106, 107, 108, 109, 110, 111, 112, 113, 114, 11, 57, 58, 12] (fun k => [.int .i64 (k : Nat), .int .i64 ((newsK D k).length : Nat), .bool false]) (fun _ => [.row no ns.length nc 3 1 (natE.fl ns), .row po cs.length pc 38 32 (fqE.fl (cs.map bFq)), .row go_ cs.length gc 51 2 (fdE.fl D), .row fo cs.length fc 36 2 (fdE.fl D), .blk gb 26 [.slice ko ks.length kc], .rd ko (rkE.fl ks), .rd eo (enE.fl (knR ks)), .rd so (strE.fl cs)]) (fun k => k ≤ cs.length) (fun k => cs.length - k) 0 [0, 1, 2, 3, 4, 5, 6, 7] rfl rfl rfl rfl (Nat.zero_le _) ?_
  rintro k hk
  refine sx_base 0 rfl fun hno _ => ?_
  refine sx_base 1 rfl fun hpo _ => ?_
  refine sx_base 2 rfl fun hgo _ => ?_
  refine sx_base 3 rfl fun hfo _ => ?_
  by_cases hlt : k < cs.length
  · obtain ⟨c, hc⟩ : ∃ c, cs[k]? = some c := ⟨cs[k], by simp [hlt]⟩
    obtain ⟨x, hx⟩ : ∃ x, D[k]? = some x := ⟨D[k]'(by omega), by simp [show k < D.length by omega]⟩
    have hfc : (cs.map bFq)[k]? = some (bFq c) := by rw [List.getElem?_map, hc]; rfl
    have hcsz := hcz c (List.mem_of_getElem? hc)
    obtain ⟨gp, rfl⟩ := hpo (by omega)
    obtain ⟨gg, rfl⟩ := hgo (by omega)
    obtain ⟨gf, rfl⟩ := hfo (by omega)
    ((try refine sx_use ?_); (repeat (refine SxNew.mk fun _ => ?_; (try refine sx_use ?_))))
    refine SxCode.drawAll rfl [] ?_
    ((try refine sx_use ?_); (repeat (refine SxNew.mk fun _ => ?_; (try refine sx_use ?_))))
    refine SxIA.row 3 _ _ _ rfl k rfl hlt fun g' hg' => ?_
    obtain rfl : gf = g' := by simpa using hg'
    ((try refine sx_use ?_); (repeat (refine SxNew.mk fun _ => ?_; (try refine sx_use ?_))))
    refine SxLd.row 3 rfl rfl (j := k * 2) (by omega) (v := .int .i64 x.1) (fdE.fl_cell (j := 0) hx rfl) ?_
    ((try refine sx_use ?_); (repeat (refine SxNew.mk fun _ => ?_; (try refine sx_use ?_))))
    refine SxIA.row 2 _ _ _ rfl k rfl hlt fun g' hg' => ?_
    obtain rfl : gg = g' := by simpa using hg'
    ((try refine sx_use ?_); (repeat (refine SxNew.mk fun _ => ?_; (try refine sx_use ?_))))
    refine SxLd.row 2 rfl rfl (j := k * 2) (by omega) (v := .int .i64 x.1) (fdE.fl_cell (j := 0) hx rfl) ?_
    ((try refine sx_use ?_); (repeat (refine SxNew.mk fun _ => ?_; (try refine sx_use ?_))))
    refine SxIA.row 3 _ _ _ rfl k rfl hlt fun g' hg' => ?_
    obtain rfl : gf = g' := by simpa using hg'
    ((try refine sx_use ?_); (repeat (refine SxNew.mk fun _ => ?_; (try refine sx_use ?_))))
    refine SxLd.row 3 rfl rfl (j := k * 2 + 1) (by omega) (v := .int .i64 x.2) (fdE.fl_cell (j := 1) hx rfl) ?_
    ((try refine sx_use ?_); (repeat (refine SxNew.mk fun _ => ?_; (try refine sx_use ?_))))
    refine SxIA.row 2 _ _ _ rfl k rfl hlt fun g' hg' => ?_
    obtain rfl : gg = g' := by simpa using hg'
    ((try refine sx_use ?_); (repeat (refine SxNew.mk fun _ => ?_; (try refine sx_use ?_))))
    refine SxLd.row 2 rfl rfl (j := k * 2 + 1) (by omega) (v := .int .i64 x.2) (fdE.fl_cell (j := 1) hx rfl) ?_
    ((try refine sx_use ?_); (repeat (refine SxNew.mk fun _ => ?_; (try refine sx_use ?_))))
    refine SxIA.row 1 _ _ _ rfl k rfl hlt fun g' hg' => ?_
    obtain rfl : gp = g' := by simpa using hg'
    ((try refine sx_use ?_); (repeat (refine SxNew.mk fun _ => ?_; (try refine sx_use ?_))))
    refine SxLdN.row 1 rfl rfl (j := k * 32) (by omega) (vs := fqC (bFq c)) (fqC_len _) (fqE_at hfc) ?_
    ((try refine sx_use ?_); (repeat (refine SxNew.mk fun _ => ?_; (try refine sx_use ?_))))
    refine SxIA.rd 7 _ rfl k rfl hlt (by rw [strE_len]; omega) fun g off ha => ?_
    ((try refine sx_use ?_); (repeat (refine SxNew.mk fun _ => ?_; (try refine sx_use ?_))))
    refine SxLd.rd 7 rfl ha rfl (j := k * 1) (strE_at hc) ?_
    ((try refine sx_use ?_); (repeat (refine SxNew.mk fun _ => ?_; (try refine sx_use ?_))))
    refine SxCall.rsumF c (by omega) ?_
    ((try refine sx_use ?_); (repeat (refine SxNew.mk fun _ => ?_; (try refine sx_use ?_))))
    refine SxRun.neFq ?_
    rw [decide_eq_true rfl]
    ((try refine sx_use ?_); (repeat (refine SxNew.mk fun _ => ?_; (try refine sx_use ?_))))
    refine SxIA.row 2 _ _ _ rfl k rfl hlt fun g' hg' => ?_
    obtain rfl : gg = g' := by simpa using hg'
    ((try refine sx_use ?_); (repeat (refine SxNew.mk fun _ => ?_; (try refine sx_use ?_))))
    refine SxLdN.row 2 rfl rfl (j := k * 2) (by omega) (vs := fdC x) rfl (fdE_at hx) ?_
    ((try refine sx_use ?_); (repeat (refine SxNew.mk fun _ => ?_; (try refine sx_use ?_))))
    refine SxCall.quiet (RKind_any x) ?_
    ((try refine sx_use ?_); (repeat (refine SxNew.mk fun _ => ?_; (try refine sx_use ?_))))
    have hsu := newsK_succ hx
    refine SxIf.eq (fun h2 => ?_) (fun h2 => ?_)
    · have hf := kindN_two.1 (by omega : kindN x = 2)
      have hat := newsK_at hx hf hlt
      rw [← hns] at hat
      rw [if_pos hf] at hsu
      have hl1 : (newsK D (k + 1)).length = (newsK D k).length + 1 := by rw [hsu, List.length_append]; rfl
      have hlt2 := (List.getElem?_eq_some_iff.1 hat).1
      obtain ⟨gn, rfl⟩ := hno (by omega)
      have hkl := newsK_len D k
      ((try refine sx_use ?_); (repeat (refine SxNew.mk fun _ => ?_; (try refine sx_use ?_))))
      refine SxIA.row 0 _ _ _ rfl (newsK D k).length rfl hlt2 fun g' hg' => ?_
      obtain rfl : gn = g' := by simpa using hg'
      ((try refine sx_use ?_); (repeat (refine SxNew.mk fun _ => ?_; (try refine sx_use ?_))))
      refine SxLd.row 0 rfl rfl (j := (newsK D k).length * 1) (by omega) (v := .int .i64 (k : Nat)) (natE_at hat) ?_
      ((try refine sx_use ?_); (repeat (refine SxNew.mk fun _ => ?_; (try refine sx_use ?_))))
      exact SxRound.mk (k + 1) [0, 1, 2, 3, 4, 5, 6, 7] (by rw [hl1]; rfl) rfl rfl hlt (by first | omega | (dsimp only; omega))
    · have hf : ¬ freshB x = true := fun hf => h2 (by rw [kindN_two.2 hf]; rfl)
      rw [if_neg hf] at hsu
      ((try refine sx_use ?_); (repeat (refine SxNew.mk fun _ => ?_; (try refine sx_use ?_))))
      exact SxRound.mk (k + 1) [0, 1, 2, 3, 4, 5, 6, 7] (by rw [hsu]; rfl) rfl rfl hlt (by first | omega | (dsimp only; omega))
  · obtain rfl : k = cs.length := by omega
    rw [← hns]
    clear hlt hgo hpo hno hfo
    have hsz : ∀ i, lenW cs i ≤ 1000000 := fun i => by
      unfold lenW
      cases hc : cs[i]? with
      | none => exact Nat.zero_le _
      | some c => have := hcz c (List.mem_of_getElem? hc); show c.size ≤ _; omega
    refine sx_base 3 rfl fun _ hfc => ?_
    ((try refine sx_use ?_); (repeat (refine SxNew.mk fun _ => ?_; (try refine sx_use ?_))))
    refine SxCall.quietS (fun w1 hs => by
      have h2 := Counts_any D (by omega) fo fc w1 (hs.rowRd 3 rfl (by rw [fdE_len]; unfold maxLen; omega))
      rw [hdl] at h2; exact h2) ?_
    ((try refine sx_use ?_); (repeat (refine SxNew.mk fun _ => ?_; (try refine sx_use ?_))))
    refine SxCall.quietS (fun w1 hs => by
      have h2 := Lengths_any cs D hdl (by omega) hsz so fo sc fc (by omega) w1 (hs.rd 7 rfl) (hs.rowRd 3 rfl (by rw [fdE_len]; unfold maxLen; omega))
      rw [hdl] at h2; exact h2) ?_
    ((try refine sx_use ?_); (repeat (refine SxNew.mk fun _ => ?_; (try refine sx_use ?_))))
    have hS := fun w1 (a : Rd w1 so (strE.fl cs)) (b : Rd w1 go_ (fdE.fl D)) => RSums_any cs D hdl (by omega) hsz so go_ sc gc w1 a b
    simp only [hdl] at hS
    refine SxCall.at (fun w1 hs => hS w1 (hs.rd 7 rfl) (hs.rowRd 2 rfl (by rw [fdE_len]; unfold maxLen; omega))) fun w1 e w' hs ⟨g1, g2, h1, h2, h3⟩ => ⟨_, _, h1, Sat.twoNew hs h2 h3 (by show 3 ≤ maxLen; decide) (by show 3 ≤ maxLen; decide), ?_⟩
    ((try refine sx_use ?_); (repeat (refine SxNew.mk fun _ => ?_; (try refine sx_use ?_))))
    refine SxIA.rd 0 _ rfl 0 rfl (by decide) (by show 0 < 3; decide) fun g off ha => ?_
    ((try refine sx_use ?_); (repeat (refine SxNew.mk fun _ => ?_; (try refine sx_use ?_))))
    refine SxLd.rd 0 rfl ha rfl (j := 0 * 1) (v := .int .i64 (sumK D (fun _ => 1) 0 cs.length : Nat)) rfl ?_
    ((try refine sx_use ?_); (repeat (refine SxNew.mk fun _ => ?_; (try refine sx_use ?_))))
    refine SxIA.rd 0 _ rfl 1 rfl (by decide) (by show 1 < 3; decide) fun g off ha => ?_
    ((try refine sx_use ?_); (repeat (refine SxNew.mk fun _ => ?_; (try refine sx_use ?_))))
    refine SxLd.rd 0 rfl ha rfl (j := 1 * 1) (v := .int .i64 (sumK D (fun _ => 1) 1 cs.length : Nat)) rfl ?_
    ((try refine sx_use ?_); (repeat (refine SxNew.mk fun _ => ?_; (try refine sx_use ?_))))
    refine SxIA.rd 0 _ rfl 2 rfl (by decide) (by show 2 < 3; decide) fun g off ha => ?_
    ((try refine sx_use ?_); (repeat (refine SxNew.mk fun _ => ?_; (try refine sx_use ?_))))
    refine SxLd.rd 0 rfl ha rfl (j := 2 * 1) (v := .int .i64 (sumK D (fun _ => 1) 2 cs.length : Nat)) rfl ?_
    ((try refine sx_use ?_); (repeat (refine SxNew.mk fun _ => ?_; (try refine sx_use ?_))))
    refine SxIA.rd 1 _ rfl 0 rfl (by decide) (by show 0 < 3; decide) fun g off ha => ?_
    ((try refine sx_use ?_); (repeat (refine SxNew.mk fun _ => ?_; (try refine sx_use ?_))))
    refine SxLd.rd 1 rfl ha rfl (j := 0 * 1) (v := .int .i64 (sumK D (lenW cs) 0 cs.length : Nat)) rfl ?_
    ((try refine sx_use ?_); (repeat (refine SxNew.mk fun _ => ?_; (try refine sx_use ?_))))
    refine SxIA.rd 1 _ rfl 1 rfl (by decide) (by show 1 < 3; decide) fun g off ha => ?_
    ((try refine sx_use ?_); (repeat (refine SxNew.mk fun _ => ?_; (try refine sx_use ?_))))
    refine SxLd.rd 1 rfl ha rfl (j := 1 * 1) (v := .int .i64 (sumK D (lenW cs) 1 cs.length : Nat)) rfl ?_
    ((try refine sx_use ?_); (repeat (refine SxNew.mk fun _ => ?_; (try refine sx_use ?_))))
    refine SxIA.rd 1 _ rfl 2 rfl (by decide) (by show 2 < 3; decide) fun g off ha => ?_
    ((try refine sx_use ?_); (repeat (refine SxNew.mk fun _ => ?_; (try refine sx_use ?_))))
    refine SxLd.rd 1 rfl ha rfl (j := 2 * 1) (v := .int .i64 (sumK D (lenW cs) 2 cs.length : Nat)) rfl ?_
    ((try refine sx_use ?_); (repeat (refine SxNew.mk fun _ => ?_; (try refine sx_use ?_))))
    refine SxCall.quiet mt_awake ?_
    ((try refine sx_use ?_); (repeat (refine SxNew.mk fun _ => ?_; (try refine sx_use ?_))))
    exact SxDone.mk fun w' hs => ⟨rfl, hs.touch.below⟩
end Go.Proofs.Ytipmmknecadkkaa

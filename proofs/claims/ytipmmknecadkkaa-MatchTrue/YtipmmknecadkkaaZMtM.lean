/- Layer 19: MatchTrue. -/
import Derived.Test.YtipmmknecadkkaaZMtL
namespace Go.Proofs.Ytipmmknecadkkaa
open Go.RowKit

set_option maxHeartbeats 16000000 in
set_option maxRecDepth 20000 in
theorem MatchTrue_law (w : World) (v1 : Value) (hv1 : FitK Try.prog w 4 (.slice 9) v1) (v2 : Value) (hv2 : FitK Try.prog w 4 (.slice 60) v2) :
    Calls Try.prog 3 #[v1, v2] w fun e w' => e = .returned (.bool true) ∧ Below w.heap.size w w' := by
  obtain ⟨so, n, sc, rfl, hn, cs, hcs, hsr⟩ := open_strs hv1
  obtain ⟨bo, m, bc, rfl, hm, kws, hks, hkr⟩ := open_kws hv2
  clear hv1 hv2
  unfold maxLen at hn hm
  refine sx_fn (S := SX) (M := []) (H0 := [.rd so (strE.fl cs), .rd bo (kwE.fl kws)]) (N := 220) Try.func3 rfl rfl rfl (Sat.twoRd _ hsr hkr) ?_
  ((try refine sx_use ?_); (repeat (refine SxNew.mk fun _ => ?_; (try refine sx_use ?_))))
  refine SxCall.quietP (fun w1 hs => few19_any cs kws n m hcs hks so bo sc bc w1 (hs.rd 0 rfl) (hs.rd 1 rfl)) ?_
  rintro v ⟨b, rfl, hb⟩
  ((try refine sx_use ?_); (repeat (refine SxNew.mk fun _ => ?_; (try refine sx_use ?_))))
  refine SxIf.nt ⟨fun hg => ?_, fun hg => ?_⟩
  case' refine_2 =>
    ((try refine sx_use ?_); (repeat (refine SxNew.mk fun _ => ?_; (try refine sx_use ?_))))
    refine SxCall.quiet mt_awake ?_
    ((try refine sx_use ?_); (repeat (refine SxNew.mk fun _ => ?_; (try refine sx_use ?_))))
    exact SxDone.mk fun w' hs => ⟨rfl, hs.touch.below⟩
  obtain ⟨hn12, hm12, hcz, hkz⟩ := hb hg
  clear hb
  obtain rfl : n = cs.length := by omega
  obtain rfl : m = kws.length := by omega
  obtain ⟨ks, hks2⟩ : ∃ ks, ks = rksOf kws := ⟨_, rfl⟩
  have hkl : ks.length = kws.length := by rw [hks2, rksOf_len]
  have hsl : ∀ (i : Nat) (r : Rk), ks[i]? = some r → r.en.sl = i := fun i r h => by rw [hks2] at h; exact rksOf_sl kws i r h
  have hdl := docF_len cs ks cs.length (Nat.le_refl _)
  ((try refine sx_use ?_); (repeat (refine SxNew.mk fun _ => ?_; (try refine sx_use ?_))))
  refine SxCall.at (fun w1 hs => known_any kws (by omega) hkz bo bc w1 (hs.rd 1 rfl)) fun w1 e w' hs ⟨ko, kc, eo, ec, h1, h2, h3⟩ => ⟨_, _, h1, Sat.twoNew hs h2 h3 (by rw [rkE_len, rksOf_len]; unfold maxLen; omega) (by rw [enE_len1, knR_len, rksOf_len]; unfold maxLen; omega), ?_⟩
  rw [← hks2, ← hkl]
  ((try refine sx_use ?_); (repeat (refine SxNew.mk fun _ => ?_; (try refine sx_use ?_))))
  refine SxCall.teller19 fun gb => ?_
  ((try refine sx_use ?_); (repeat (refine SxNew.mk fun _ => ?_; (try refine sx_use ?_))))
  obtain ⟨D, hD⟩ : ∃ D, D = docF cs ks cs.length := ⟨_, rfl⟩
  rw [← hD] at hdl
  refine SxCall.newRow (fun w1 hs => Found_any cs hn12 hcz ks (by omega) hsl so eo ko sc ec kc gb w1 (hs.rd 3 rfl) (hs.rd 2 rfl) (Rd.of_blk (hs.blk 0 rfl) (by show 1 ≤ maxLen; decide)) (hs.rd 1 rfl)) fun fo fc => ?_
  ((try refine sx_use ?_); (repeat (refine SxNew.mk fun _ => ?_; (try refine sx_use ?_))))
  rw [← hD]
  ((try refine sx_use ?_); (repeat (refine SxNew.mk fun _ => ?_; (try refine sx_use ?_))))
  refine SxCode.loop (σ := Nat) [8, 4] [32, 33, 34, 35, 38, 39, 40, 41, 9, 42, 43, 44, 45, 46, 47, 48, 49, 50, 51, 52, 53, 54, 55, 56, 57, 58, 59, 60, 61, 62, 4, 63, 64, 65, 66, 67, 68, 69, 70, 71, 72, 73, 74, 75, 76, 77, 78, 79, 80, 81, 82, 83, 84, 85, 86, 87, 88, 89, 90, 91, 92, 93, 94, 95, 96, 97, 98, 99, 100, 101, 102, 103, 104, 105, 106, 107, 108, 109, 110, 111, 112, 113, 114, 115, 116, 117, 118, 119, 120, 121, 122, 10, 123, 124, 125, 126, 127, 128, 129, 130, 131, 134, 135, 136, 137, 138, 139, 140, 141, 142, 143, 144, 145, 146, 147, 148, 149, 150, 151, 152, 153, 154, 155, 156, 157, 158, 159, 160, 161, 162, 163, 164, 165, 166, 167, 168, 169, 170, 171, 172, 173, 174, 175, 176, 177, 178, 132, 133, 11, 179, 180, 181, 182, 183, 184, 185, 186, 187, 188, 189, 190, 191, 194, 195, 196, 197, 198, 199, 200, 201, 202, 203, 204, 205, 206, 207, 208, 209, 210, 211, 212, 213, 214, 215, 216, 217, 218, 192, 193, 36, 37, 8] (fun k => [.int .i64 (k : Nat), .bool false]) (fun _ => [.row fo cs.length fc 36 2 (fdE.fl D), .rd ko (rkE.fl ks), .rd so (strE.fl cs)]) (fun k => k ≤ cs.length) (fun k => cs.length - k) 0 [0, 2, 4] rfl rfl rfl rfl (Nat.zero_le _) ?_
  rintro k hk
  refine sx_base 0 rfl fun hfo _ => ?_
  by_cases hlt : k < cs.length
  · obtain ⟨c, hc⟩ : ∃ c, cs[k]? = some c := ⟨cs[k], by simp [hlt]⟩
    obtain ⟨⟨a, b⟩, hx⟩ : ∃ x, D[k]? = some x := ⟨D[k]'(by omega), by simp [show k < D.length by omega]⟩
    have hfnd : Fnd cs ks k c (a, b) := fnd_of cs ks hc (by rw [← hD]; exact hx)
    obtain ⟨f1, f2, f3, f4, f5, f6, f7, f8, f9⟩ := hfnd
    dsimp only at f1 f2 f3 f4 f5 f6 f7 f8 f9
    rw [← hD] at f7 f9
    have hcsz := hcz c (List.mem_of_getElem? hc)
    obtain ⟨gf, rfl⟩ := hfo (by omega)
    have h1 : ¬ (ks.length : Int) ≤ a := by omega
    have h2 : ¬ (k : Int) ≤ b := by omega
    ((try refine sx_use ?_); (repeat (refine SxNew.mk fun _ => ?_; (try refine sx_use ?_))))
    refine SxIA.row 0 _ _ _ rfl k rfl hlt fun g' hg' => ?_
    obtain rfl : gf = g' := by simpa using hg'
    ((try refine sx_use ?_); (repeat (refine SxNew.mk fun _ => ?_; (try refine sx_use ?_))))
    refine SxLdN.row 0 rfl rfl (j := k * 2) (by omega) (vs := [.int .i64 a, .int .i64 b]) rfl (fdE_at hx) ?_
    ((try refine sx_use ?_); (repeat (refine SxNew.mk fun _ => ?_; (try refine sx_use ?_))))
    rename_i bx
    rcases (by omega : 0 ≤ a ∨ (a < 0 ∧ 0 ≤ b) ∨ (a < 0 ∧ b < 0)) with ha0 | ⟨ha0, hb0⟩ | ⟨ha0, hb0⟩
    case inl =>
      obtain ⟨na, hna⟩ : ∃ na : Nat, a = na := ⟨a.toNat, by omega⟩
      have hb0 := f5 ha0
      have hpr := f6 na hna
      obtain ⟨r, hr⟩ : ∃ r, ks[na]? = some r := ⟨ks[na]'(by omega), by simp [show na < ks.length by omega]⟩
      unfold pR at hpr
      rw [hr] at hpr
      simp only [Bool.and_eq_true, decide_eq_true_iff] at hpr
      obtain ⟨hp1, hp2, hp3, hp4⟩ := hpr
      have hr1 := rk_has hr
      have hr2 := rk_s hr
      rw [hp3] at hr1
      rw [hp4] at hr2
      ((try refine sx_use ?_); (repeat (refine SxNew.mk fun _ => ?_; (try refine sx_use ?_))))
      refine SxCode.drawAll rfl [] ?_
      ((try refine sx_use ?_); (repeat (refine SxNew.mk fun _ => ?_; (try refine sx_use ?_))))
      refine SxIA.rd 2 _ rfl na hna (by omega) (by rw [rkE_len]; omega) fun g off ha => ?_
      ((try refine sx_use ?_); (repeat (refine SxNew.mk fun _ => ?_; (try refine sx_use ?_))))
      refine SxLd.rd 2 rfl ha (by omega) (j := na * 37 + 35) hr1 ?_
      ((try refine sx_use ?_); (repeat (refine SxNew.mk fun _ => ?_; (try refine sx_use ?_))))
      refine SxIA.rd 2 _ rfl na hna (by omega) (by rw [rkE_len]; omega) fun g off ha => ?_
      ((try refine sx_use ?_); (repeat (refine SxNew.mk fun _ => ?_; (try refine sx_use ?_))))
      refine SxLd.rd 2 rfl ha (by omega) (j := na * 37 + 36) hr2 ?_
      ((try refine sx_use ?_); (repeat (refine SxNew.mk fun _ => ?_; (try refine sx_use ?_))))
      refine SxIA.rd 3 _ rfl k rfl hlt (by rw [strE_len]; omega) fun g off ha => ?_
      ((try refine sx_use ?_); (repeat (refine SxNew.mk fun _ => ?_; (try refine sx_use ?_))))
      refine SxLd.rd 3 rfl ha rfl (j := k * 1) (strE_at hc) ?_
      ((try refine sx_use ?_); (repeat (refine SxNew.mk fun _ => ?_; (try refine sx_use ?_))))
      refine SxIf.nt (SxIf.str (fun _ => ?_) (fun h => absurd rfl h))
      ((try refine sx_use ?_); (repeat (refine SxNew.mk fun _ => ?_; (try refine sx_use ?_))))
      refine SxCode.loop (σ := Nat) [10, 4] [123, 124, 125, 126, 127, 128, 129, 130, 131, 134, 135, 136, 137, 138, 139, 140, 141, 142, 143, 144, 145, 146, 147, 148, 149, 150, 151, 152, 153, 154, 155, 156, 157, 158, 159, 160, 161, 162, 163, 164, 165, 166, 167, 168, 169, 170, 171, 172, 173, 174, 175, 176, 177, 178, 4, 132, 133, 10] (fun j => [.int .i64 (j : Nat), .bool false]) (fun _ => [.blk bx 36 [.int .i64 a, .int .i64 b], .row (some ⟨gf, 0, none⟩) cs.length fc 36 2 (fdE.fl D), .rd ko (rkE.fl ks), .rd so (strE.fl cs)]) (fun j => j ≤ ks.length) (fun j => ks.length - j) 0 [0, 1, 2, 3] rfl rfl rfl rfl (Nat.zero_le _) ?_
      rintro j hj
      by_cases hja : j < ks.length ∧ a < 0
      · exfalso; omega
      · by_cases hjl : j < ks.length
        case' pos => first | (exfalso; omega) | ((try refine sx_use ?_); (repeat (refine SxNew.mk fun _ => ?_; (try refine sx_use ?_))))
        case' neg => first | (exfalso; omega) | ((try refine sx_use ?_); (repeat (refine SxNew.mk fun _ => ?_; (try refine sx_use ?_))))
        all_goals
          refine SxCode.loop (σ := Nat) [11, 4] [179, 180, 181, 182, 183, 184, 185, 186, 187, 188, 189, 190, 191, 194, 195, 196, 197, 198, 199, 200, 201, 202, 203, 204, 205, 206, 207, 208, 209, 210, 211, 212, 213, 214, 215, 216, 217, 218, 4, 192, 193, 11] (fun j => [.int .i64 (j : Nat), .bool false]) (fun _ => [.blk bx 36 [.int .i64 a, .int .i64 b], .row (some ⟨gf, 0, none⟩) cs.length fc 36 2 (fdE.fl D), .rd ko (rkE.fl ks), .rd so (strE.fl cs)]) (fun j => j ≤ k) (fun j => k - j) 0 [0, 1, 2, 3] rfl rfl rfl rfl (Nat.zero_le _) ?_
          rintro i hi
          by_cases hib : i < k ∧ a < 0 ∧ b < 0
          · exfalso; omega
          · by_cases hik : i < k
            case' pos => by_cases ha1 : a < 0
            all_goals
              first
                | (exfalso; omega)
                | (((try refine sx_use ?_); (repeat (refine SxNew.mk fun _ => ?_; (try refine sx_use ?_))))
                   exact SxRound.mk (k + 1) [1, 2, 3] rfl rfl rfl hlt (by first | omega | (dsimp only; omega)))
    case inr.inl =>
      obtain ⟨nb, hnb⟩ : ∃ nb : Nat, b = nb := ⟨b.toNat, by omega⟩
      have hpw := f7 nb hnb
      obtain ⟨y, hy⟩ : ∃ y, D[nb]? = some y := ⟨D[nb]'(by omega), by simp [show nb < D.length by omega]⟩
      unfold pW at hpw
      rw [hy] at hpw
      simp only [Bool.and_eq_true, decide_eq_true_iff] at hpw
      obtain ⟨hp1, hp2⟩ := hpw
      obtain ⟨y1, y2⟩ := y
      unfold freshB at hp1
      simp only [Bool.and_eq_true, decide_eq_true_iff] at hp1
      obtain ⟨hp0, hp1⟩ := hp1
      ((try refine sx_use ?_); (repeat (refine SxNew.mk fun _ => ?_; (try refine sx_use ?_))))
      refine SxCode.drawAll rfl [] ?_
      ((try refine sx_use ?_); (repeat (refine SxNew.mk fun _ => ?_; (try refine sx_use ?_))))
      refine SxIA.row 1 _ _ _ rfl nb hnb (by omega) fun g' hg' => ?_
      obtain rfl : gf = g' := by simpa using hg'
      ((try refine sx_use ?_); (repeat (refine SxNew.mk fun _ => ?_; (try refine sx_use ?_))))
      refine SxLd.row 1 rfl rfl (j := nb * 2) (by omega) (v := .int .i64 y1) (fdE.fl_cell (j := 0) hy rfl) ?_
      ((try refine sx_use ?_); (repeat (refine SxNew.mk fun _ => ?_; (try refine sx_use ?_))))
      refine SxIA.row 1 _ _ _ rfl nb hnb (by omega) fun g' hg' => ?_
      obtain rfl : gf = g' := by simpa using hg'
      ((try refine sx_use ?_); (repeat (refine SxNew.mk fun _ => ?_; (try refine sx_use ?_))))
      refine SxLd.row 1 rfl rfl (j := nb * 2 + 1) (by omega) (v := .int .i64 y2) (fdE.fl_cell (j := 1) hy rfl) ?_
      ((try refine sx_use ?_); (repeat (refine SxNew.mk fun _ => ?_; (try refine sx_use ?_))))
      refine SxIA.rd 3 _ rfl nb hnb (by omega) (by rw [strE_len]; omega) fun g off ha => ?_
      ((try refine sx_use ?_); (repeat (refine SxNew.mk fun _ => ?_; (try refine sx_use ?_))))
      refine SxLd.rd 3 rfl ha rfl (j := nb * 1) (strE_at hp2) ?_
      ((try refine sx_use ?_); (repeat (refine SxNew.mk fun _ => ?_; (try refine sx_use ?_))))
      refine SxIA.rd 3 _ rfl k rfl hlt (by rw [strE_len]; omega) fun g off ha => ?_
      ((try refine sx_use ?_); (repeat (refine SxNew.mk fun _ => ?_; (try refine sx_use ?_))))
      refine SxLd.rd 3 rfl ha rfl (j := k * 1) (strE_at hc) ?_
      ((try refine sx_use ?_); (repeat (refine SxNew.mk fun _ => ?_; (try refine sx_use ?_))))
      refine SxIf.nt (SxIf.str (fun _ => ?_) (fun h => absurd rfl h))
      ((try refine sx_use ?_); (repeat (refine SxNew.mk fun _ => ?_; (try refine sx_use ?_))))
      refine SxCode.loop (σ := Nat) [10, 4] [123, 124, 125, 126, 127, 128, 129, 130, 131, 134, 135, 136, 137, 138, 139, 140, 141, 142, 143, 144, 145, 146, 147, 148, 149, 150, 151, 152, 153, 154, 155, 156, 157, 158, 159, 160, 161, 162, 163, 164, 165, 166, 167, 168, 169, 170, 171, 172, 173, 174, 175, 176, 177, 178, 4, 132, 133, 10] (fun j => [.int .i64 (j : Nat), .bool false]) (fun _ => [.blk bx 36 [.int .i64 a, .int .i64 b], .row (some ⟨gf, 0, none⟩) cs.length fc 36 2 (fdE.fl D), .rd ko (rkE.fl ks), .rd so (strE.fl cs)]) (fun j => j ≤ ks.length) (fun j => ks.length - j) 0 [0, 1, 2, 3] rfl rfl rfl rfl (Nat.zero_le _) ?_
      rintro j hj
      by_cases hja : j < ks.length ∧ a < 0
      · obtain ⟨hjl, ha1⟩ := hja
        have hpr := f8 ha1 j hjl
        obtain ⟨r, hr⟩ : ∃ r, ks[j]? = some r := ⟨ks[j]'(by omega), by simp [show j < ks.length by omega]⟩
        unfold pR at hpr
        rw [hr] at hpr
        dsimp only at hpr
        ((try refine sx_use ?_); (repeat (refine SxNew.mk fun _ => ?_; (try refine sx_use ?_))))
        refine SxCode.drawAll rfl [] ?_
        ((try refine sx_use ?_); (repeat (refine SxNew.mk fun _ => ?_; (try refine sx_use ?_))))
        refine SxIA.rd 2 _ rfl j rfl hjl (by rw [rkE_len]; omega) fun g off ha => ?_
        ((try refine sx_use ?_); (repeat (refine SxNew.mk fun _ => ?_; (try refine sx_use ?_))))
        refine SxLd.rd 2 rfl ha (by omega) (j := j * 37 + 35) (rk_has hr) ?_
        ((try refine sx_use ?_); (repeat (refine SxNew.mk fun _ => ?_; (try refine sx_use ?_))))
        refine ⟨fun h1 => ?_, fun h1 => ?_⟩
        · ((try refine sx_use ?_); (repeat (refine SxNew.mk fun _ => ?_; (try refine sx_use ?_))))
          refine SxIA.rd 2 _ rfl j rfl hjl (by rw [rkE_len]; omega) fun g off ha => ?_
          ((try refine sx_use ?_); (repeat (refine SxNew.mk fun _ => ?_; (try refine sx_use ?_))))
          refine SxLd.rd 2 rfl ha (by omega) (j := j * 37 + 36) (rk_s hr) ?_
          ((try refine sx_use ?_); (repeat (refine SxNew.mk fun _ => ?_; (try refine sx_use ?_))))
          refine SxIA.rd 3 _ rfl k rfl hlt (by rw [strE_len]; omega) fun g off ha => ?_
          ((try refine sx_use ?_); (repeat (refine SxNew.mk fun _ => ?_; (try refine sx_use ?_))))
          refine SxLd.rd 3 rfl ha rfl (j := k * 1) (strE_at hc) ?_
          ((try refine sx_use ?_); (repeat (refine SxNew.mk fun _ => ?_; (try refine sx_use ?_))))
          refine SxIf.str (fun h2 => ?_) (fun h2 => ?_)
          · ((try refine sx_use ?_); (repeat (refine SxNew.mk fun _ => ?_; (try refine sx_use ?_))))
            refine SxIA.rd 2 _ rfl j rfl hjl (by rw [rkE_len]; omega) fun g off ha => ?_
            ((try refine sx_use ?_); (repeat (refine SxNew.mk fun _ => ?_; (try refine sx_use ?_))))
            refine SxLdN.rd 2 rfl ha (by omega) (j := j * 37) (vs := fqC r.en.fq) (fqC_len _) (rk_fp hr) ?_
            ((try refine sx_use ?_); (repeat (refine SxNew.mk fun _ => ?_; (try refine sx_use ?_))))
            refine SxIA.rd 3 _ rfl k rfl hlt (by rw [strE_len]; omega) fun g off ha => ?_
            ((try refine sx_use ?_); (repeat (refine SxNew.mk fun _ => ?_; (try refine sx_use ?_))))
            refine SxLd.rd 3 rfl ha rfl (j := k * 1) (strE_at hc) ?_
            ((try refine sx_use ?_); (repeat (refine SxNew.mk fun _ => ?_; (try refine sx_use ?_))))
            refine SxCall.rsumF c (by omega) ?_
            ((try refine sx_use ?_); (repeat (refine SxNew.mk fun _ => ?_; (try refine sx_use ?_))))
            refine SxRun.eqFq ?_
            ((try refine sx_use ?_); (repeat (refine SxNew.mk fun _ => ?_; (try refine sx_use ?_))))
            refine SxIf.dec (fun h3 => ?_) (fun h3 => ?_)
            · have h4 : ¬ r.en.ln = (c.size : Nat) := fun h4 => by
                rw [h1, decide_eq_true h2, decide_eq_true h3, decide_eq_true h4] at hpr
                cases hpr
              ((try refine sx_use ?_); (repeat (refine SxNew.mk fun _ => ?_; (try refine sx_use ?_))))
              refine SxIA.rd 2 _ rfl j rfl hjl (by rw [rkE_len]; omega) fun g off ha => ?_
              ((try refine sx_use ?_); (repeat (refine SxNew.mk fun _ => ?_; (try refine sx_use ?_))))
              refine SxLd.rd 2 rfl ha (by omega) (j := j * 37 + 32) (rk_ln hr) ?_
              ((try refine sx_use ?_); (repeat (refine SxNew.mk fun _ => ?_; (try refine sx_use ?_))))
              refine SxIA.rd 3 _ rfl k rfl hlt (by rw [strE_len]; omega) fun g off ha => ?_
              ((try refine sx_use ?_); (repeat (refine SxNew.mk fun _ => ?_; (try refine sx_use ?_))))
              refine SxLd.rd 3 rfl ha rfl (j := k * 1) (strE_at hc) ?_
              ((try refine sx_use ?_); (repeat (refine SxNew.mk fun _ => ?_; (try refine sx_use ?_))))
              exact SxRound.mk (j + 1) [0, 1, 2, 3] rfl rfl rfl hjl (by first | omega | (dsimp only; omega))
            · ((try refine sx_use ?_); (repeat (refine SxNew.mk fun _ => ?_; (try refine sx_use ?_))))
              exact SxRound.mk (j + 1) [0, 1, 2, 3] rfl rfl rfl hjl (by first | omega | (dsimp only; omega))
          · ((try refine sx_use ?_); (repeat (refine SxNew.mk fun _ => ?_; (try refine sx_use ?_))))
            exact SxRound.mk (j + 1) [0, 1, 2, 3] rfl rfl rfl hjl (by first | omega | (dsimp only; omega))
        · ((try refine sx_use ?_); (repeat (refine SxNew.mk fun _ => ?_; (try refine sx_use ?_))))
          exact SxRound.mk (j + 1) [0, 1, 2, 3] rfl rfl rfl hjl (by first | omega | (dsimp only; omega))
      · by_cases hjl : j < ks.length
        case' pos => first | (exfalso; omega) | ((try refine sx_use ?_); (repeat (refine SxNew.mk fun _ => ?_; (try refine sx_use ?_))))
        case' neg => first | (exfalso; omega) | ((try refine sx_use ?_); (repeat (refine SxNew.mk fun _ => ?_; (try refine sx_use ?_))))
        all_goals
          refine SxCode.loop (σ := Nat) [11, 4] [179, 180, 181, 182, 183, 184, 185, 186, 187, 188, 189, 190, 191, 194, 195, 196, 197, 198, 199, 200, 201, 202, 203, 204, 205, 206, 207, 208, 209, 210, 211, 212, 213, 214, 215, 216, 217, 218, 4, 192, 193, 11] (fun j => [.int .i64 (j : Nat), .bool false]) (fun _ => [.blk bx 36 [.int .i64 a, .int .i64 b], .row (some ⟨gf, 0, none⟩) cs.length fc 36 2 (fdE.fl D), .rd ko (rkE.fl ks), .rd so (strE.fl cs)]) (fun j => j ≤ k) (fun j => k - j) 0 [0, 1, 2, 3] rfl rfl rfl rfl (Nat.zero_le _) ?_
          rintro i hi
          by_cases hib : i < k ∧ a < 0 ∧ b < 0
          · exfalso; omega
          · by_cases hik : i < k
            case' pos => by_cases ha1 : a < 0
            all_goals
              first
                | (exfalso; omega)
                | (((try refine sx_use ?_); (repeat (refine SxNew.mk fun _ => ?_; (try refine sx_use ?_))))
                   exact SxRound.mk (k + 1) [1, 2, 3] rfl rfl rfl hlt (by first | omega | (dsimp only; omega)))
    case inr.inr =>
      ((try refine sx_use ?_); (repeat (refine SxNew.mk fun _ => ?_; (try refine sx_use ?_))))
      (try refine SxCode.drawAll rfl [] ?_)
      (try ((try refine sx_use ?_); (repeat (refine SxNew.mk fun _ => ?_; (try refine sx_use ?_)))))
      refine SxCode.loop (σ := Nat) [10, 4] [123, 124, 125, 126, 127, 128, 129, 130, 131, 134, 135, 136, 137, 138, 139, 140, 141, 142, 143, 144, 145, 146, 147, 148, 149, 150, 151, 152, 153, 154, 155, 156, 157, 158, 159, 160, 161, 162, 163, 164, 165, 166, 167, 168, 169, 170, 171, 172, 173, 174, 175, 176, 177, 178, 4, 132, 133, 10] (fun j => [.int .i64 (j : Nat), .bool false]) (fun _ => [.blk bx 36 [.int .i64 a, .int .i64 b], .row (some ⟨gf, 0, none⟩) cs.length fc 36 2 (fdE.fl D), .rd ko (rkE.fl ks), .rd so (strE.fl cs)]) (fun j => j ≤ ks.length) (fun j => ks.length - j) 0 [0, 1, 2, 3] rfl rfl rfl rfl (Nat.zero_le _) ?_
      rintro j hj
      by_cases hja : j < ks.length ∧ a < 0
      · obtain ⟨hjl, ha1⟩ := hja
        have hpr := f8 ha1 j hjl
        obtain ⟨r, hr⟩ : ∃ r, ks[j]? = some r := ⟨ks[j]'(by omega), by simp [show j < ks.length by omega]⟩
        unfold pR at hpr
        rw [hr] at hpr
        dsimp only at hpr
        ((try refine sx_use ?_); (repeat (refine SxNew.mk fun _ => ?_; (try refine sx_use ?_))))
        refine SxCode.drawAll rfl [] ?_
        ((try refine sx_use ?_); (repeat (refine SxNew.mk fun _ => ?_; (try refine sx_use ?_))))
        refine SxIA.rd 2 _ rfl j rfl hjl (by rw [rkE_len]; omega) fun g off ha => ?_
        ((try refine sx_use ?_); (repeat (refine SxNew.mk fun _ => ?_; (try refine sx_use ?_))))
        refine SxLd.rd 2 rfl ha (by omega) (j := j * 37 + 35) (rk_has hr) ?_
        ((try refine sx_use ?_); (repeat (refine SxNew.mk fun _ => ?_; (try refine sx_use ?_))))
        refine ⟨fun h1 => ?_, fun h1 => ?_⟩
        · ((try refine sx_use ?_); (repeat (refine SxNew.mk fun _ => ?_; (try refine sx_use ?_))))
          refine SxIA.rd 2 _ rfl j rfl hjl (by rw [rkE_len]; omega) fun g off ha => ?_
          ((try refine sx_use ?_); (repeat (refine SxNew.mk fun _ => ?_; (try refine sx_use ?_))))
          refine SxLd.rd 2 rfl ha (by omega) (j := j * 37 + 36) (rk_s hr) ?_
          ((try refine sx_use ?_); (repeat (refine SxNew.mk fun _ => ?_; (try refine sx_use ?_))))
          refine SxIA.rd 3 _ rfl k rfl hlt (by rw [strE_len]; omega) fun g off ha => ?_
          ((try refine sx_use ?_); (repeat (refine SxNew.mk fun _ => ?_; (try refine sx_use ?_))))
          refine SxLd.rd 3 rfl ha rfl (j := k * 1) (strE_at hc) ?_
          ((try refine sx_use ?_); (repeat (refine SxNew.mk fun _ => ?_; (try refine sx_use ?_))))
          refine SxIf.str (fun h2 => ?_) (fun h2 => ?_)
          · ((try refine sx_use ?_); (repeat (refine SxNew.mk fun _ => ?_; (try refine sx_use ?_))))
            refine SxIA.rd 2 _ rfl j rfl hjl (by rw [rkE_len]; omega) fun g off ha => ?_
            ((try refine sx_use ?_); (repeat (refine SxNew.mk fun _ => ?_; (try refine sx_use ?_))))
            refine SxLdN.rd 2 rfl ha (by omega) (j := j * 37) (vs := fqC r.en.fq) (fqC_len _) (rk_fp hr) ?_
            ((try refine sx_use ?_); (repeat (refine SxNew.mk fun _ => ?_; (try refine sx_use ?_))))
            refine SxIA.rd 3 _ rfl k rfl hlt (by rw [strE_len]; omega) fun g off ha => ?_
            ((try refine sx_use ?_); (repeat (refine SxNew.mk fun _ => ?_; (try refine sx_use ?_))))
            refine SxLd.rd 3 rfl ha rfl (j := k * 1) (strE_at hc) ?_
            ((try refine sx_use ?_); (repeat (refine SxNew.mk fun _ => ?_; (try refine sx_use ?_))))
            refine SxCall.rsumF c (by omega) ?_
            ((try refine sx_use ?_); (repeat (refine SxNew.mk fun _ => ?_; (try refine sx_use ?_))))
            refine SxRun.eqFq ?_
            ((try refine sx_use ?_); (repeat (refine SxNew.mk fun _ => ?_; (try refine sx_use ?_))))
            refine SxIf.dec (fun h3 => ?_) (fun h3 => ?_)
            · have h4 : ¬ r.en.ln = (c.size : Nat) := fun h4 => by
                rw [h1, decide_eq_true h2, decide_eq_true h3, decide_eq_true h4] at hpr
                cases hpr
              ((try refine sx_use ?_); (repeat (refine SxNew.mk fun _ => ?_; (try refine sx_use ?_))))
              refine SxIA.rd 2 _ rfl j rfl hjl (by rw [rkE_len]; omega) fun g off ha => ?_
              ((try refine sx_use ?_); (repeat (refine SxNew.mk fun _ => ?_; (try refine sx_use ?_))))
              refine SxLd.rd 2 rfl ha (by omega) (j := j * 37 + 32) (rk_ln hr) ?_
              ((try refine sx_use ?_); (repeat (refine SxNew.mk fun _ => ?_; (try refine sx_use ?_))))
              refine SxIA.rd 3 _ rfl k rfl hlt (by rw [strE_len]; omega) fun g off ha => ?_
              ((try refine sx_use ?_); (repeat (refine SxNew.mk fun _ => ?_; (try refine sx_use ?_))))
              refine SxLd.rd 3 rfl ha rfl (j := k * 1) (strE_at hc) ?_
              ((try refine sx_use ?_); (repeat (refine SxNew.mk fun _ => ?_; (try refine sx_use ?_))))
              exact SxRound.mk (j + 1) [0, 1, 2, 3] rfl rfl rfl hjl (by first | omega | (dsimp only; omega))
            · ((try refine sx_use ?_); (repeat (refine SxNew.mk fun _ => ?_; (try refine sx_use ?_))))
              exact SxRound.mk (j + 1) [0, 1, 2, 3] rfl rfl rfl hjl (by first | omega | (dsimp only; omega))
          · ((try refine sx_use ?_); (repeat (refine SxNew.mk fun _ => ?_; (try refine sx_use ?_))))
            exact SxRound.mk (j + 1) [0, 1, 2, 3] rfl rfl rfl hjl (by first | omega | (dsimp only; omega))
        · ((try refine sx_use ?_); (repeat (refine SxNew.mk fun _ => ?_; (try refine sx_use ?_))))
          exact SxRound.mk (j + 1) [0, 1, 2, 3] rfl rfl rfl hjl (by first | omega | (dsimp only; omega))
      · by_cases hjl : j < ks.length
        case' pos => first | (exfalso; omega) | ((try refine sx_use ?_); (repeat (refine SxNew.mk fun _ => ?_; (try refine sx_use ?_))))
        case' neg => first | (exfalso; omega) | ((try refine sx_use ?_); (repeat (refine SxNew.mk fun _ => ?_; (try refine sx_use ?_))))
        all_goals
          refine SxCode.loop (σ := Nat) [11, 4] [179, 180, 181, 182, 183, 184, 185, 186, 187, 188, 189, 190, 191, 194, 195, 196, 197, 198, 199, 200, 201, 202, 203, 204, 205, 206, 207, 208, 209, 210, 211, 212, 213, 214, 215, 216, 217, 218, 4, 192, 193, 11] (fun j => [.int .i64 (j : Nat), .bool false]) (fun _ => [.blk bx 36 [.int .i64 a, .int .i64 b], .row (some ⟨gf, 0, none⟩) cs.length fc 36 2 (fdE.fl D), .rd ko (rkE.fl ks), .rd so (strE.fl cs)]) (fun j => j ≤ k) (fun j => k - j) 0 [0, 1, 2, 3] rfl rfl rfl rfl (Nat.zero_le _) ?_
          rintro i hi
          by_cases hib : i < k ∧ a < 0 ∧ b < 0
          · obtain ⟨hik, ha1, hb1⟩ := hib
            have hpw := f9 ha1 hb1 i hik
            obtain ⟨⟨y1, y2⟩, hy⟩ : ∃ y, D[i]? = some y := ⟨D[i]'(by omega), by simp [show i < D.length by omega]⟩
            obtain ⟨d, hd⟩ : ∃ d, cs[i]? = some d := ⟨cs[i]'(by omega), by simp [show i < cs.length by omega]⟩
            unfold pW at hpw
            rw [hy] at hpw
            dsimp only at hpw
            unfold freshB at hpw
            dsimp only at hpw
            ((try refine sx_use ?_); (repeat (refine SxNew.mk fun _ => ?_; (try refine sx_use ?_))))
            refine SxCode.drawAll rfl [] ?_
            ((try refine sx_use ?_); (repeat (refine SxNew.mk fun _ => ?_; (try refine sx_use ?_))))
            refine SxIA.row 1 _ _ _ rfl i rfl (by omega) fun g' hg' => ?_
            obtain rfl : gf = g' := by simpa using hg'
            ((try refine sx_use ?_); (repeat (refine SxNew.mk fun _ => ?_; (try refine sx_use ?_))))
            refine SxLd.row 1 rfl rfl (j := i * 2) (by omega) (v := .int .i64 y1) (fdE.fl_cell (j := 0) hy rfl) ?_
            ((try refine sx_use ?_); (repeat (refine SxNew.mk fun _ => ?_; (try refine sx_use ?_))))
            refine SxIf.dec (fun h1 => ?_) (fun h1 => ?_)
            · ((try refine sx_use ?_); (repeat (refine SxNew.mk fun _ => ?_; (try refine sx_use ?_))))
              refine SxIA.row 1 _ _ _ rfl i rfl (by omega) fun g' hg' => ?_
              obtain rfl : gf = g' := by simpa using hg'
              ((try refine sx_use ?_); (repeat (refine SxNew.mk fun _ => ?_; (try refine sx_use ?_))))
              refine SxLd.row 1 rfl rfl (j := i * 2 + 1) (by omega) (v := .int .i64 y2) (fdE.fl_cell (j := 1) hy rfl) ?_
              ((try refine sx_use ?_); (repeat (refine SxNew.mk fun _ => ?_; (try refine sx_use ?_))))
              refine SxIf.dec (fun h2 => ?_) (fun h2 => ?_)
              · ((try refine sx_use ?_); (repeat (refine SxNew.mk fun _ => ?_; (try refine sx_use ?_))))
                refine SxIA.rd 3 _ rfl i rfl (by omega) (by rw [strE_len]; omega) fun g off ha => ?_
                ((try refine sx_use ?_); (repeat (refine SxNew.mk fun _ => ?_; (try refine sx_use ?_))))
                refine SxLd.rd 3 rfl ha rfl (j := i * 1) (strE_at hd) ?_
                ((try refine sx_use ?_); (repeat (refine SxNew.mk fun _ => ?_; (try refine sx_use ?_))))
                refine SxIA.rd 3 _ rfl k rfl hlt (by rw [strE_len]; omega) fun g off ha => ?_
                ((try refine sx_use ?_); (repeat (refine SxNew.mk fun _ => ?_; (try refine sx_use ?_))))
                refine SxLd.rd 3 rfl ha rfl (j := k * 1) (strE_at hc) ?_
                ((try refine sx_use ?_); (repeat (refine SxNew.mk fun _ => ?_; (try refine sx_use ?_))))
                refine SxIf.str (fun h3 => ?_) (fun h3 => ?_)
                · exfalso
                  rw [decide_eq_true h1, decide_eq_true h2, hd, h3, decide_eq_true rfl] at hpw
                  cases hpw
                · ((try refine sx_use ?_); (repeat (refine SxNew.mk fun _ => ?_; (try refine sx_use ?_))))
                  exact SxRound.mk (i + 1) [0, 1, 2, 3] rfl rfl rfl hik (by first | omega | (dsimp only; omega))
              · ((try refine sx_use ?_); (repeat (refine SxNew.mk fun _ => ?_; (try refine sx_use ?_))))
                exact SxRound.mk (i + 1) [0, 1, 2, 3] rfl rfl rfl hik (by first | omega | (dsimp only; omega))
            · ((try refine sx_use ?_); (repeat (refine SxNew.mk fun _ => ?_; (try refine sx_use ?_))))
              exact SxRound.mk (i + 1) [0, 1, 2, 3] rfl rfl rfl hik (by first | omega | (dsimp only; omega))
          · by_cases hik : i < k
            case' pos => by_cases ha1 : a < 0
            all_goals
              first
                | (exfalso; omega)
                | (((try refine sx_use ?_); (repeat (refine SxNew.mk fun _ => ?_; (try refine sx_use ?_))))
                   exact SxRound.mk (k + 1) [1, 2, 3] rfl rfl rfl hlt (by first | omega | (dsimp only; omega)))
  · obtain rfl : k = cs.length := by omega
    ((try refine sx_use ?_); (repeat (refine SxNew.mk fun _ => ?_; (try refine sx_use ?_))))
    refine SxCall.quiet mt_awake ?_
    ((try refine sx_use ?_); (repeat (refine SxNew.mk fun _ => ?_; (try refine sx_use ?_))))
    exact SxDone.mk fun w' hs => ⟨rfl, hs.touch.below⟩
end Go.Proofs.Ytipmmknecadkkaa

/- Layer 26: DupMoves. -/
import Derived.Test.YtdififdnnpgjoaaZDuM
import Derived.Test.YtdififdnnpgjoaaZGen
namespace Go.Proofs.Ytdififdnnpgjoaa
open Go.RowKit

theorem mov_ends {L : List Ck} (hL : ∀ a ∈ L, ∀ b ∈ L, a.pl = b.pl → a = b) {p : Pl} (hp : p ∈ movD L) : ∃ c ∈ L, c.pl = p ∧ ∃ x ∈ L, x.pl = movF L p ∧ tkey x = tkey c ∧ movF L p ∉ movD L := by
  have hm := hp
  unfold movD at hm
  rw [List.mem_filter, plsS_mem2] at hm
  obtain ⟨⟨c, hc, rfl⟩, hne⟩ := hm
  refine ⟨c, hc, rfl, ?_⟩
  have hF : movF L c.pl = canonC L c := by unfold movF; rw [atC_of hL hc]
  rw [hF]
  obtain ⟨h1, h2, h3⟩ := canon_ok c L
  have h4 : ∃ x ∈ L, x.pl = canonC L c ∧ tkey x = tkey c := by
    rcases h1 with h1 | ⟨x, hx, hk, he⟩
    · exact ⟨c, hc, h1.symm, rfl⟩
    · exact ⟨x, hx, he, hk⟩
  obtain ⟨x, hx, hxp, hxk⟩ := h4
  refine ⟨x, hx, hxp, hxk, fun hq => ?_⟩
  unfold movD at hq
  rw [List.mem_filter] at hq
  have hq2 := hq.2
  rw [Bool.not_eq_true', decide_eq_false_iff_not] at hq2
  refine hq2 ?_
  rw [← hxp, atC_of hL hx]
  obtain ⟨g1, g2, g3⟩ := canon_ok x L
  refine ltP_ord.tri _ _ (fun hl => ?_) g2
  rcases g1 with g1 | ⟨y, hy, hyk, hye⟩
  · rw [g1] at hl; exact ltP_ord.irr _ hl
  · rw [← hye, hxp] at hl
    exact h3 y hy (hyk.trans hxk) hl
theorem mf_fr {F : Pl → Pl} {l : List Pl} {k : Nat} {p : Pl} (hp : l[k]? = some p) : (((mfEn F).fl l).drop (k * 4)).take 2 = plC p := by
  have h2 := mf_at (F := F) hp
  have h3 : (((mfEn F).fl l).drop (k * 4)).take 2 = ((((mfEn F).fl l).drop (k * 4)).take 4).take 2 := by rw [List.take_take]; rfl
  rw [h3, h2]; rfl
theorem mf_to {F : Pl → Pl} {l : List Pl} {k : Nat} {p : Pl} (hp : l[k]? = some p) : (((mfEn F).fl l).drop (k * 4 + 2)).take 2 = plC (F p) := by
  have h2 := mf_at (F := F) hp
  have h3 : (((mfEn F).fl l).drop (k * 4 + 2)).take 2 = (((((mfEn F).fl l).drop (k * 4)).take 4).drop 2).take 2 := by
    rw [List.drop_take, List.take_take, List.drop_drop]; rfl
  rw [h3, h2]; rfl
set_option maxHeartbeats 16000000 in
set_option maxRecDepth 20000 in
theorem DupMoves_law (w : World) (v1 : Value) (hv1 : FitK Try.prog w 4 (.slice 34) v1) :
    Calls Try.prog 5 #[v1] w fun e w' => e = .returned (.bool true) ∧ Below w.heap.size w w' := by
  obtain ⟨ao, n, ac, rfl, hn, l0, hl0, hr⟩ := open_cks hv1
  clear hv1
  refine sx_fn (S := SX) (M := []) (H0 := [.rd ao (ckE.fl l0)]) (N := 133) Try.func5 rfl rfl rfl (Sat.oneRd _ hr) ?_
  ((try refine sx_use ?_); (repeat (refine SxNew.mk fun _ => ?_; (try refine sx_use ?_))))
  refine SxCall.at (fun w1 hs => ours_any l0 n hl0 ao ac w1 (hs.rd 0 rfl)) fun w1 e w' hs ⟨a1, c1, a2, c2, h1, h2, h3⟩ => ⟨_, _, h1, Sat.twoNew hs h2 h3 (by rw [ckE_len]; have := oursL_len l0; unfold maxLen; omega) (by rw [ckE_len]; have := oursL_len l0; unfold maxLen; omega), ?_⟩
  have hl := oursL_len l0
  have hsz := oursL_size l0
  obtain ⟨l, hll⟩ : ∃ l, l = oursL l0 := ⟨_, rfl⟩
  rw [← hll] at hl hsz ⊢
  have hcl := cnt_len l
  have hu := cnt_uniq l
  have hml := movD_len l
  ((try refine sx_use ?_); (repeat (refine SxNew.mk fun _ => ?_; (try refine sx_use ?_))))
  refine SxCall.newRd (by rw [mf_len]; unfold maxLen; omega) (fun w1 hs => Moves_any l (by omega) a1 c1 w1 (hs.rd 0 rfl)) fun mo mc => ?_
  ((try refine sx_use ?_); (repeat (refine SxNew.mk fun _ => ?_; (try refine sx_use ?_))))
  refine SxCall.at (fun w1 hs => RMoves_any l (by omega) a2 c2 w1 (hs.rd 2 rfl)) fun w1 e w' hs ⟨b1, d1, b2, d2, h1, h2, h3⟩ => ⟨_, _, h1, Sat.twoNew hs h2 h3 (by rw [rowPl_len]; unfold maxLen; omega) (by rw [rowPl_len, List.length_map]; unfold maxLen; omega), ?_⟩
  ((try refine sx_use ?_); (repeat (refine SxNew.mk fun _ => ?_; (try refine sx_use ?_))))
  refine SxCall.quietS (fun w1 hs => Waste_any l (by omega) hsz a1 c1 w1 (hs.rd 3 rfl)) ?_
  ((try refine sx_use ?_); (repeat (refine SxNew.mk fun _ => ?_; (try refine sx_use ?_))))
  refine SxCall.quietS (fun w1 hs => RWaste_any l (by omega) hsz a2 c2 w1 (hs.rd 4 rfl)) ?_
  ((try refine sx_use ?_); (repeat (refine SxNew.mk fun _ => ?_; (try refine sx_use ?_))))
  have hends := fun p hp => mov_ends (L := cnt l) hu (p := p) hp
  obtain ⟨A, hA⟩ : ∃ A, A = movD (cnt l) := ⟨_, rfl⟩
  obtain ⟨F, hF⟩ : ∃ F, F = movF (cnt l) := ⟨_, rfl⟩
  obtain ⟨L, hL⟩ : ∃ L, L = cnt l := ⟨_, rfl⟩
  obtain ⟨wd, hwd⟩ : ∃ wd, wd = wstD (cnt l) := ⟨_, rfl⟩
  have hmA : A.length ≤ l.length := by rw [hA]; exact hml
  rw [← hA, ← hF] at hends
  rw [← hA, ← hwd, ← hF]
  refine SxCall.quietS (fun w1 hs => sameM_any F A (by omega) mo b1 b2 mc d1 d2 w1 (hs.rd 2 rfl) (hs.rd 0 rfl) (hs.rd 1 rfl)) ?_
  ((try refine sx_use ?_); (repeat (refine SxNew.mk fun _ => ?_; (try refine sx_use ?_))))
  refine SxCall.quietS (fun w1 hs => Unique_any l (by omega) hsz a1 c1 w1 (hs.rd 3 rfl)) ?_
  rw [← hA]
  ((try refine sx_use ?_); (repeat (refine SxNew.mk fun _ => ?_; (try refine sx_use ?_))))
  refine SxRun.blNe Try.underlying4 ?_
  rw [show (decide (A.length = 0) != ((A.length : Int) == 0)) = false by
    by_cases h : A.length = 0
    · rw [decide_eq_true h, h]; rfl
    · rw [decide_eq_false h]
      have : ((A.length : Int) == 0) = false := by rw [beq_eq_false_iff_ne]; omega
      rw [this]; rfl]
  ((try refine sx_use ?_); (repeat (refine SxNew.mk fun _ => ?_; (try refine sx_use ?_))))
  refine SxCall.quiet du_awake ?_
  ((try refine sx_use ?_); (repeat (refine SxNew.mk fun _ => ?_; (try refine sx_use ?_))))
  refine SxCall.newRd (by rw [ckE_len]; unfold maxLen; omega) (fun w1 hs => RCount_any26 l (by omega) a2 c2 w1 (hs.rd 4 rfl)) fun lo lc => ?_
  rw [← hL] at hcl hu hends ⊢
  ((try refine sx_use ?_); (repeat (refine SxNew.mk fun _ => ?_; (try refine sx_use ?_))))
  refine SxCode.loop (σ := Nat) [13, 2] [69, 70, 71, 72, 14, 75, 76, 77, 78, 81, 82, 83, 84, 85, 86, 87, 88, 89, 90, 91, 2, 79, 80, 15, 16, 17, 92, 93, 94, 95, 98, 99, 100, 101, 102, 103, 104, 105, 106, 107, 108, 109, 110, 111, 112, 113, 114, 115, 116, 117, 118, 119, 120, 121, 122, 123, 124, 125, 126, 127, 128, 129, 96, 97, 130, 131, 132, 73, 74, 13] (fun k => [.int .i64 (k : Nat), .bool false]) (fun _ => [.rd lo (ckE.fl L), .rd mo ((mfEn F).fl A)]) (fun k => k ≤ A.length) (fun k => A.length - k) 0 [0, 3] rfl rfl rfl rfl (Nat.zero_le _) ?_
  rintro i hi
  by_cases hlt : i < A.length
  · obtain ⟨p, hp⟩ : ∃ p, A[i]? = some p := ⟨A[i], by simp [hlt]⟩
    obtain ⟨c, hc, hcp, x, hx, hxp, hxk, hnot⟩ := hends p (List.mem_of_getElem? hp)
    ((try refine sx_use ?_); (repeat (refine SxNew.mk fun _ => ?_; (try refine sx_use ?_))))
    refine SxCode.loop (σ := Nat) [14, 2] [75, 76, 77, 78, 81, 82, 83, 84, 85, 86, 87, 88, 89, 90, 91, 2, 79, 80, 14] (fun k => [.int .i64 (k : Nat), .bool false]) (fun _ => [.rd lo (ckE.fl L), .rd mo ((mfEn F).fl A)]) (fun k => k ≤ A.length) (fun k => A.length - k) 0 [0, 1] rfl rfl rfl rfl (Nat.zero_le _) ?_
    rintro k hk
    by_cases hkl : k < A.length
    · obtain ⟨q, hq⟩ : ∃ q, A[k]? = some q := ⟨A[k], by simp [hkl]⟩
      have hqn : ¬ q = F p := fun e => hnot (e ▸ List.mem_of_getElem? hq)
      ((try refine sx_use ?_); (repeat (refine SxNew.mk fun _ => ?_; (try refine sx_use ?_))))
      refine SxCode.drawAll rfl [] ?_
      ((try refine sx_use ?_); (repeat (refine SxNew.mk fun _ => ?_; (try refine sx_use ?_))))
      refine SxIA.rd 1 _ rfl k rfl hkl (by rw [mf_len]; omega) fun g off ha => ?_
      ((try refine sx_use ?_); (repeat (refine SxNew.mk fun _ => ?_; (try refine sx_use ?_))))
      refine SxLdN.rd 1 rfl ha (by omega) (j := k * 4) (vs := plC q) rfl (mf_fr hq) ?_
      ((try refine sx_use ?_); (repeat (refine SxNew.mk fun _ => ?_; (try refine sx_use ?_))))
      refine SxIA.rd 1 _ rfl i rfl hlt (by rw [mf_len]; omega) fun g off ha => ?_
      ((try refine sx_use ?_); (repeat (refine SxNew.mk fun _ => ?_; (try refine sx_use ?_))))
      refine SxLdN.rd 1 rfl ha (by omega) (j := i * 4 + 2) (vs := plC (F p)) rfl (mf_to hp) ?_
      ((try refine sx_use ?_); (repeat (refine SxNew.mk fun _ => ?_; (try refine sx_use ?_))))
      refine SxRun.eqPl ?_
      rw [decide_eq_false hqn]
      ((try refine sx_use ?_); (repeat (refine SxNew.mk fun _ => ?_; (try refine sx_use ?_))))
      exact SxRound.mk (k + 1) [0, 1] rfl rfl rfl hkl (by first | omega | (dsimp only; omega))
    · obtain rfl : k = A.length := by omega
      ((try refine sx_use ?_); (repeat (refine SxNew.mk fun _ => ?_; (try refine sx_use ?_))))
      refine SxCode.loop (σ := Nat × ByteArray × ByteArray) [17, 15, 16, 2] [92, 93, 94, 95, 98, 99, 100, 101, 102, 103, 104, 105, 106, 107, 108, 109, 110, 111, 112, 113, 15, 114, 115, 116, 117, 118, 119, 120, 121, 122, 123, 124, 125, 126, 127, 128, 129, 16, 96, 97, 17] (fun y => [.int .i64 (y.1 : Nat), .string y.2.1, .string y.2.2, .bool false]) (fun _ => [.rd lo (ckE.fl L), .rd mo ((mfEn F).fl A)]) (fun y => y.1 ≤ L.length ∧ (∀ (j : Nat) (d : Ck), j < y.1 → L[j]? = some d → d.pl = p → y.2.1 = d.s) ∧ (∀ (j : Nat) (d : Ck), j < y.1 → L[j]? = some d → d.pl = F p → y.2.2 = d.s)) (fun y => L.length - y.1) (0, ⟨#[]⟩, ⟨#[110, 111]⟩) [0, 1] rfl rfl rfl rfl ⟨Nat.zero_le _, fun j d hj => absurd hj (Nat.not_lt_zero _), fun j d hj => absurd hj (Nat.not_lt_zero _)⟩ ?_
      rintro ⟨k, s, t⟩ ⟨hk, hs1, ht1⟩
      dsimp only at hk hs1 ht1 ⊢
      by_cases hkl : k < L.length
      · obtain ⟨d, hd⟩ : ∃ d, L[k]? = some d := ⟨L[k], by simp [hkl]⟩
        have hdm := List.mem_of_getElem? hd
        have step : ∀ (v v' : ByteArray) (z : Pl), (∀ (j : Nat) (e : Ck), j < k → L[j]? = some e → e.pl = z → v = e.s) → (d.pl = z → v' = d.s) → (d.pl ≠ z → v' = v) → ∀ (j : Nat) (e : Ck), j < k + 1 → L[j]? = some e → e.pl = z → v' = e.s := fun v v' z h1 h2 h3 j e hj he hz => by
          by_cases hdz : d.pl = z
          · have : e = d := hu e (List.mem_of_getElem? he) d hdm (hz.trans hdz.symm)
            rw [this]; exact h2 hdz
          · have hjk : j < k := by
              rcases Nat.lt_succ_iff_lt_or_eq.1 hj with h | h
              · exact h
              · subst h
                rw [hd] at he
                exact absurd (Option.some.inj he ▸ hz) hdz
            rw [h3 hdz]
            exact h1 j e hjk he hz
        ((try refine sx_use ?_); (repeat (refine SxNew.mk fun _ => ?_; (try refine sx_use ?_))))
        refine SxCode.drawAll rfl [] ?_
        ((try refine sx_use ?_); (repeat (refine SxNew.mk fun _ => ?_; (try refine sx_use ?_))))
        refine SxIA.rd 0 _ rfl k rfl hkl (by rw [ckE_len]; omega) fun g off ha => ?_
        ((try refine sx_use ?_); (repeat (refine SxNew.mk fun _ => ?_; (try refine sx_use ?_))))
        refine SxLdN.rd 0 rfl ha rfl (vs := plC d.pl) rfl (ckE_pl hd) ?_
        ((try refine sx_use ?_); (repeat (refine SxNew.mk fun _ => ?_; (try refine sx_use ?_))))
        refine SxIA.rd 1 _ rfl i rfl hlt (by rw [mf_len]; omega) fun g off ha => ?_
        ((try refine sx_use ?_); (repeat (refine SxNew.mk fun _ => ?_; (try refine sx_use ?_))))
        refine SxLdN.rd 1 rfl ha (by omega) (j := i * 4) (vs := plC p) rfl (mf_fr hp) ?_
        ((try refine sx_use ?_); (repeat (refine SxNew.mk fun _ => ?_; (try refine sx_use ?_))))
        refine SxRun.eqPl ?_
        ((try refine sx_use ?_); (repeat (refine SxNew.mk fun _ => ?_; (try refine sx_use ?_))))
        have hs2 : ∃ s', s' = if d.pl = p then d.s else s := ⟨_, rfl⟩
        obtain ⟨s', hs'⟩ := hs2
        refine SxIf.dec (fun h1 => ?_) (fun h1 => ?_)
        case' refine_1 =>
          rw [if_pos h1] at hs'
          ((try refine sx_use ?_); (repeat (refine SxNew.mk fun _ => ?_; (try refine sx_use ?_))))
          refine SxIA.rd 0 _ rfl k rfl hkl (by rw [ckE_len]; omega) fun g off ha => ?_
          ((try refine sx_use ?_); (repeat (refine SxNew.mk fun _ => ?_; (try refine sx_use ?_))))
          refine SxLd.rd 0 rfl ha (by omega) (j := k * 35 + 34) (ckE_s hd) ?_
          rw [← hs']
        case' refine_2 =>
          rw [if_neg h1] at hs'
          rw [← hs']
        all_goals
          ((try refine sx_use ?_); (repeat (refine SxNew.mk fun _ => ?_; (try refine sx_use ?_))))
          refine SxCode.drawAll rfl [] ?_
          ((try refine sx_use ?_); (repeat (refine SxNew.mk fun _ => ?_; (try refine sx_use ?_))))
          refine SxIA.rd 0 _ rfl k rfl hkl (by rw [ckE_len]; omega) fun g off ha => ?_
          ((try refine sx_use ?_); (repeat (refine SxNew.mk fun _ => ?_; (try refine sx_use ?_))))
          refine SxLdN.rd 0 rfl ha rfl (vs := plC d.pl) rfl (ckE_pl hd) ?_
          ((try refine sx_use ?_); (repeat (refine SxNew.mk fun _ => ?_; (try refine sx_use ?_))))
          refine SxIA.rd 1 _ rfl i rfl hlt (by rw [mf_len]; omega) fun g off ha => ?_
          ((try refine sx_use ?_); (repeat (refine SxNew.mk fun _ => ?_; (try refine sx_use ?_))))
          refine SxLdN.rd 1 rfl ha (by omega) (j := i * 4 + 2) (vs := plC (F p)) rfl (mf_to hp) ?_
          ((try refine sx_use ?_); (repeat (refine SxNew.mk fun _ => ?_; (try refine sx_use ?_))))
          refine SxRun.eqPl ?_
          ((try refine sx_use ?_); (repeat (refine SxNew.mk fun _ => ?_; (try refine sx_use ?_))))
          refine SxIf.dec (fun h2 => ?_) (fun h2 => ?_)
          · ((try refine sx_use ?_); (repeat (refine SxNew.mk fun _ => ?_; (try refine sx_use ?_))))
            refine SxIA.rd 0 _ rfl k rfl hkl (by rw [ckE_len]; omega) fun g off ha => ?_
            ((try refine sx_use ?_); (repeat (refine SxNew.mk fun _ => ?_; (try refine sx_use ?_))))
            refine SxLd.rd 0 rfl ha (by omega) (j := k * 35 + 34) (ckE_s hd) ?_
            ((try refine sx_use ?_); (repeat (refine SxNew.mk fun _ => ?_; (try refine sx_use ?_))))
            exact SxRound.mk (k + 1, s', d.s) [0, 1] rfl rfl rfl ⟨hkl, step s s' p hs1 (fun h => by first | exact hs' | exact absurd h h1) (fun h => by first | exact hs' | exact absurd h1 h), step t d.s (F p) ht1 (fun _ => rfl) (fun h => absurd h2 h)⟩ (by first | omega | (dsimp only; omega))
          · ((try refine sx_use ?_); (repeat (refine SxNew.mk fun _ => ?_; (try refine sx_use ?_))))
            exact SxRound.mk (k + 1, s', t) [0, 1] rfl rfl rfl ⟨hkl, step s s' p hs1 (fun h => by first | exact hs' | exact absurd h h1) (fun h => by first | exact hs' | exact absurd h1 h), step t t (F p) ht1 (fun h => absurd h h2) (fun _ => rfl)⟩ (by first | omega | (dsimp only; omega))
      · obtain rfl : k = L.length := by omega
        obtain ⟨jc, hjc⟩ := List.getElem?_of_mem hc
        obtain ⟨jx, hjx⟩ := List.getElem?_of_mem hx
        have e1 := hs1 jc c (List.getElem?_eq_some_iff.1 hjc).1 hjc hcp
        have e2 := ht1 jx x (List.getElem?_eq_some_iff.1 hjx).1 hjx hxp
        have e3 : s = t := by rw [e1, e2]; exact (((tkey_iff x c).1 hxk).2).symm
        ((try refine sx_use ?_); (repeat (refine SxNew.mk fun _ => ?_; (try refine sx_use ?_))))
        refine SxIf.nt (SxIf.str (fun _ => ?_) (fun h => absurd e3 h))
        ((try refine sx_use ?_); (repeat (refine SxNew.mk fun _ => ?_; (try refine sx_use ?_))))
        exact SxRound.mk (i + 1) [0, 1] rfl rfl rfl hlt (by first | omega | (dsimp only; omega))
  · obtain rfl : i = A.length := by omega
    ((try refine sx_use ?_); (repeat (refine SxNew.mk fun _ => ?_; (try refine sx_use ?_))))
    exact SxDone.mk fun w' hs => ⟨rfl, hs.touch.below⟩
end Go.Proofs.Ytdififdnnpgjoaa

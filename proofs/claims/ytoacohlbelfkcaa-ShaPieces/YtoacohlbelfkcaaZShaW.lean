/- The law of pieces. -/
import Derived.Test.YtoacohlbelfkcaaZShaT
import Derived.Test.YtoacohlbelfkcaaZOpnR
import Derived.Test.YtoacohlbelfkcaaZGen
namespace Go.Proofs.Ytoacohlbelfkcaa
open Go.RowKit

instance : Inhabited ByteArray := ⟨ByteArray.empty⟩
def strE : Enc ByteArray := ⟨fun s => [.string s], 1, by decide, fun _ => rfl, fun _ => rfl⟩
theorem open_strs {w : World} {d : Nat} {v : Value} (hv : FitK Try.prog w (d + 1) (.slice 9) v) : ∃ (ao : Option Addr) (n cap : Nat), v = .slice ao n cap ∧ n ≤ maxLen ∧ ∃ l : List ByteArray, l.length = min n 1000 ∧ Rd w ao (strE.fl l) :=
  open_rows strE (by decide) [.str] hv (by kernel_rfl) (by kernel_rfl) rfl fun cs h => by
    obtain ⟨hl, hf⟩ := h
    match cs, hl with
    | [x], _ =>
      obtain ⟨s, rfl, _⟩ := fitK_str (hf 0 _ _ rfl rfl)
      exact ⟨s, rfl⟩
theorem strE_len (l : List ByteArray) : (strE.fl l).length = l.length * 1 := strE.fl_len l
theorem strE_map : ∀ l : List ByteArray, strE.fl l = l.map Value.string
  | [] => rfl
  | x :: l => by
    show strE.enc x ++ strE.fl l = _
    rw [strE_map l]; rfl
theorem strE_at {l : List ByteArray} {k : Nat} {x : ByteArray} (h : l[k]? = some x) : (strE.fl l)[k * 1]? = some (.string x) := strE.fl_cell (j := 0) h rfl
/-- Texts, joined. -/
def allB (ps : List ByteArray) : ByteArray := ps.foldl (· ++ ·) ByteArray.empty
theorem allB_snoc (ps : List ByteArray) (x : ByteArray) : allB (ps ++ [x]) = allB ps ++ x := by unfold allB; rw [List.foldl_append]; rfl
theorem joinL_app (a b : List ByteArray) : joinL (a ++ b) = joinL a ++ joinL b := by unfold joinL; rw [List.map_append, List.flatten_append]
theorem allB_data (ps : List ByteArray) : (allB ps).data.toList = joinL ps := by
  refine snoc_ind (P := fun ps => (allB ps).data.toList = joinL ps) rfl (fun l x ih => ?_) ps
  rw [allB_snoc, joinL_app]
  simp [joinL, ih]
theorem allB_size (ps : List ByteArray) : (allB ps).size = (joinL ps).length := by rw [← allB_data]; rfl
/-- A hash and its closure. -/
def hashG (p c : Nat) (l : List UInt8) : Ent := .gen
  { own := some p, uses := fun x => x = p ∨ x = c, holds := HashL p c l,
    own_uses := fun _ h => .inl (Option.some.inj h).symm,
    uses_lt := fun w x h hb => by rcases hb with rfl | rfl; exact h.1.lt; exact h.2.1.lt,
    kept := fun w w' row h hg hr => ⟨h.1.grown hg (fun e => hr p e.symm (.inl rfl)), h.2.1.grown hg (fun e => hr c e.symm (.inr rfl)), h.2.2⟩ }
theorem hashG_own (p c : Nat) (l : List UInt8) : (hashG p c l).own = some p := rfl
theorem hashG_uses (p c : Nat) (l : List UInt8) (g : Nat) : (hashG p c l).uses g ↔ (g = p ∨ g = c) := Iff.rfl
section
variable {W : World} {H : Hp} {A : Value → Hp → Prop}
theorem Sat.hash {w w' : World} (hs : Sat W [] H w) {i p c : Nat} {l l' : List UInt8} (hi : H[i]? = some (hashG p c l)) (hold : ∀ (j : Nat) (e : Ent), j ≠ i → H[j]? = some e → ∃ ao cs, e = .rd ao cs ∧ Rd W ao cs) (hH : HashL p c l' w') (hb : Below p w w') : Sat W [] (H.set i (hashG p c l')) w' := by
  have hp : W.heap.size ≤ p := (hs.own i _ hi p rfl).resolve_right (by simp)
  have hbw : Below W.heap.size W w' := hs.touch.below.trans (hb.mono hp)
  have hil := (List.getElem?_eq_some_iff.1 hi).1
  have get : ∀ j x, (H.set i (hashG p c l'))[j]? = some x → (j = i ∧ x = hashG p c l') ∨ (j ≠ i ∧ H[j]? = some x) := by
    intro j x hj
    rw [List.getElem?_set] at hj
    by_cases h : i = j
    · subst h; simp [hil] at hj; exact .inl ⟨rfl, hj.symm⟩
    · rw [if_neg h] at hj; exact .inr ⟨fun e => h e.symm, hj⟩
  refine ⟨⟨hbw.os, hbw.tape, hbw.output, hbw.size, fun k hk _ => hbw.block k hk⟩, fun j x hj => ?_, fun j x hj g hg => ?_, fun j k a b hjk hj hk g hg => ?_⟩
  · rcases get j x hj with ⟨_, rfl⟩ | ⟨hne, hj'⟩
    · exact hH
    · obtain ⟨ao, cs, rfl, hr⟩ := hold j x hne hj'
      exact hr.kept hbw
  · rcases get j x hj with ⟨rfl, rfl⟩ | ⟨hne, hj'⟩
    · rw [hashG_own] at hg; exact hs.own _ _ hi g (by rw [hashG_own]; exact hg)
    · exact hs.own j x hj' g hg
  · rcases get j a hj with ⟨rfl, rfl⟩ | ⟨hne, hj'⟩
    · rcases get k b hk with ⟨rfl, rfl⟩ | ⟨hne', hk'⟩
      · exact absurd rfl hjk
      · rw [hashG_own] at hg; exact hs.sep _ k _ b hjk hi hk' g (by rw [hashG_own]; exact hg)
    · rcases get k b hk with ⟨rfl, rfl⟩ | ⟨hne', hk'⟩
      · rw [hashG_uses]; have := hs.sep j _ a _ hjk hj' hi g hg; rw [hashG_uses] at this; exact this
      · exact hs.sep j k a b hjk hj' hk' g hg
theorem SxCall.hwrite (i : Nat) {p c : Nat} {l : List UInt8} (str : ByteArray) (hl : l.length + str.size ≤ 900000) (hi : H[i]? = some (hashG p c l)) (hold : ∀ (j : Nat) (e : Ent), j ≠ i → H[j]? = some e → ∃ ao cs, e = .rd ao cs ∧ Rd W ao cs)
    (h : A (.int .i64 0) (H.set i (hashG p c (l ++ str.data.toList)))) : SxCall SX W [] 12 #[.pointer (some ⟨p, 0, none⟩), .string str] H A :=
  ⟨fun w hs => (Write_any p c l str hl w (hs.holds i _ hi)).mono fun e w' ⟨he, hH, hb⟩ => ⟨_, _, he, hs.hash hi hold hH hb, h⟩⟩
theorem SxCall.hnew {M : List Nat} (h : ∀ p c, A (.pointer (some ⟨p, 0, none⟩)) (hashG p c [] :: H)) : SxCall SX W M 11 #[] H A :=
  ⟨fun w hs => (NewL_any w).mono fun e w' ⟨p, c, he, hH, hp, hb⟩ => ⟨_, _, he, hs.cons (Below.toGrown hb) (e := hashG p c []) hH (fun g hg => by
    have := hH.2.2
    rcases hg with rfl | rfl <;> omega), h p c⟩⟩
theorem SxCall.hlen {M : List Nat} (i : Nat) {p c : Nat} {l : List UInt8} (hi : H[i]? = some (hashG p c l)) (h : A (.int .i64 (l.length : Nat)) H) : SxCall SX W M 13 #[.pointer (some ⟨p, 0, none⟩)] H A := SxCall.quietS (fun w hs => LenL_any p c l w (hs.holds i _ hi)) h
theorem SxCall.hsum {M : List Nat} (i : Nat) {p c : Nat} {l : List UInt8} (hl : l.length ≤ 900000) (hi : H[i]? = some (hashG p c l)) (h : A (.agg (tab 32 (sumV (shaS l))).toArray) H) : SxCall SX W M 14 #[.pointer (some ⟨p, 0, none⟩)] H A := SxCall.quietS (fun w hs => SumL_any p c l hl w (hs.holds i _ hi)) h
theorem SxCall.rsum {M : List Nat} (s : ByteArray) (l : List UInt8) (he : s.data.toList = l) (hl : l.length ≤ 900000) (h : A (.agg (tab 32 (sumV (shaS l))).toArray) H) : SxCall SX W M 10 #[.string s] H A := SxCall.quiet (fun w => by
  subst he
  have hz : s.size ≤ 900000 := hl
  exact RSum_any s hz (fun W => RPad_any s.size (by omega) W) w) h
end
set_option maxHeartbeats 4000000 in
theorem ShaPieces_law (w : World) (v : Value) (hv : FitK Try.prog w 4 (.slice 9) v) :
    Calls Try.prog 4 #[v] w fun e w' => e = .returned (.bool true) ∧ Below w.heap.size w w' := by
  obtain ⟨ao, n, cap, rfl, hn, ps, hps, hr⟩ := open_strs hv
  clear hv
  unfold maxLen at hn
  refine sx_fn (S := SX) (M := []) (N := 84) (H0 := [.rd ao (strE.fl ps)]) Try.func4 rfl rfl rfl (Sat.oneRd _ hr) ?_
  ((try refine sx_use ?_); (repeat (refine SxNew.mk fun _ => ?_; (try refine sx_use ?_))))
  refine SxCall.hnew fun p c => ?_
  ((try refine sx_use ?_); (repeat (refine SxNew.mk fun _ => ?_; (try refine sx_use ?_))))
  (try refine SxRun.pEqNil Try.underlying29 ?_)
  (try ((try refine sx_use ?_); (repeat (refine SxNew.mk fun _ => ?_; (try refine sx_use ?_)))))
  obtain ⟨N, hN⟩ : ∃ N, N = min n 20 := ⟨_, rfl⟩
  have hNp : N ≤ ps.length := by omega
  refine SxCode.loop (σ := Nat) [5, 3, 2] [9, 10, 11, 12, 13, 14, 15, 16, 19, 20, 21, 22, 23, 24, 25, 2, 26, 27, 28, 29, 30, 31, 3, 32, 33, 34, 35, 36, 37, 38, 39, 40, 41, 42, 43, 44, 45, 46, 47, 48, 49, 50, 51, 52, 53, 54, 55, 56, 57, 17, 18, 5] (fun k => [.int .i64 (k : Nat), .string (allB (ps.take k)), .bool false]) (fun k => [hashG p c (joinL (ps.take k)), .rd ao (strE.fl ps)]) (fun k => k ≤ N ∧ (joinL (ps.take k)).length ≤ k * 200) (fun k => N - k) 0 [0, 1] rfl rfl rfl rfl ⟨Nat.zero_le _, by simp [joinL]⟩ ?_
  rintro k ⟨hk, hjl⟩
  have hsz := allB_size (ps.take k)
  have hold : ∀ {l : List UInt8} (j : Nat) (e : Ent), j ≠ 0 → [hashG p c l, .rd ao (strE.fl ps)][j]? = some e → ∃ ao cs, e = .rd ao cs ∧ Rd w ao cs := fun {l} j e hj he => by
    match j, hj, he with
    | 1, _, he => cases he; exact ⟨_, _, rfl, hr⟩
  by_cases hlt : k < N
  · obtain ⟨x, hx⟩ : ∃ x, ps[k]? = some x := ⟨ps[k]'(by omega), by simp [show k < ps.length by omega]⟩
    have hjs : joinL (ps.take (k + 1)) = joinL (ps.take k) ++ x.data.toList := by rw [take_snocE hx, joinL_app]; simp [joinL]
    have has : allB (ps.take (k + 1)) = allB (ps.take k) ++ x := by rw [take_snocE hx, allB_snoc]
    have hsz1 := allB_size (ps.take (k + 1))
    have had := allB_data (ps.take (k + 1))
    have hjl1 : (joinL (ps.take (k + 1))).length = (joinL (ps.take k)).length + x.size := by rw [hjs, List.length_append]; rfl
    ((try refine sx_use ?_); (repeat (refine SxNew.mk fun _ => ?_; (try refine sx_use ?_))))
    (try refine SxIf.yes (by omega) ?_)
    (try ((try refine sx_use ?_); (repeat (refine SxNew.mk fun _ => ?_; (try refine sx_use ?_)))))
    refine SxIA.rd 1 _ rfl k rfl (by omega) (by rw [strE_len]; omega) fun g off ha => ?_
    ((try refine sx_use ?_); (repeat (refine SxNew.mk fun _ => ?_; (try refine sx_use ?_))))
    refine SxLd.rd 1 rfl ha rfl (j := k * 1) (strE_at hx) ?_
    ((try refine sx_use ?_); (repeat (refine SxNew.mk fun _ => ?_; (try refine sx_use ?_))))
    refine SxIf.dec (fun h2 => ?_) (fun h2 => ?_)
    · ((try refine sx_use ?_); (repeat (refine SxNew.mk fun _ => ?_; (try refine sx_use ?_))))
      refine SxCall.quiet awake_any ?_
      ((try refine sx_use ?_); (repeat (refine SxNew.mk fun _ => ?_; (try refine sx_use ?_))))
      exact SxDone.mk fun w' hs => ⟨rfl, hs.touch.below⟩
    ((try refine sx_use ?_); (repeat (refine SxNew.mk fun _ => ?_; (try refine sx_use ?_))))
    refine SxIA.rd 1 _ rfl k rfl (by omega) (by rw [strE_len]; omega) fun g off ha => ?_
    ((try refine sx_use ?_); (repeat (refine SxNew.mk fun _ => ?_; (try refine sx_use ?_))))
    refine SxLd.rd 1 rfl ha rfl (j := k * 1) (strE_at hx) ?_
    ((try refine sx_use ?_); (repeat (refine SxNew.mk fun _ => ?_; (try refine sx_use ?_))))
    refine SxLe.mk (by omega) ?_
    rw [← has]
    ((try refine sx_use ?_); (repeat (refine SxNew.mk fun _ => ?_; (try refine sx_use ?_))))
    refine SxIA.rd 1 _ rfl k rfl (by omega) (by rw [strE_len]; omega) fun g off ha => ?_
    ((try refine sx_use ?_); (repeat (refine SxNew.mk fun _ => ?_; (try refine sx_use ?_))))
    refine SxLd.rd 1 rfl ha rfl (j := k * 1) (strE_at hx) ?_
    ((try refine sx_use ?_); (repeat (refine SxNew.mk fun _ => ?_; (try refine sx_use ?_))))
    refine SxCall.hwrite 0 x (by omega) rfl hold ?_
    rw [← hjs]
    ((try refine sx_use ?_); (repeat (refine SxNew.mk fun _ => ?_; (try refine sx_use ?_))))
    refine SxCall.hlen 0 rfl ?_
    ((try refine sx_use ?_); (repeat (refine SxNew.mk fun _ => ?_; (try refine sx_use ?_))))
    by_cases h13 : k % 3 = 1
    · (try refine SxIf.eqT (by omega) ?_)
      (try ((try refine sx_use ?_); (repeat (refine SxNew.mk fun _ => ?_; (try refine sx_use ?_)))))
      refine SxCall.hsum 0 (by omega) rfl ?_
      ((try refine sx_use ?_); (repeat (refine SxNew.mk fun _ => ?_; (try refine sx_use ?_))))
      refine SxCall.rsum _ _ had (by omega) ?_
      ((try refine sx_use ?_); (repeat (refine SxNew.mk fun _ => ?_; (try refine sx_use ?_))))
      refine SxRun.ne 3 rfl (ks := reps 32 [.int .u8]) rfl rfl (by kernel_rfl) rfl rfl rfl ?_
      ((try refine sx_use ?_); (repeat (refine SxNew.mk fun _ => ?_; (try refine sx_use ?_))))
      refine SxIf.nt (SxIf.at ((cellsEq_iff (tab32_ok _) (tab32_ok _)).2 rfl) ?_)
      ((try refine sx_use ?_); (repeat (refine SxNew.mk fun _ => ?_; (try refine sx_use ?_))))
      exact SxRound.mk (k + 1) [0, 1] rfl rfl rfl ⟨hlt, by omega⟩ (by omega)
    · (try refine SxIf.eqF (by omega) ?_)
      (try ((try refine sx_use ?_); (repeat (refine SxNew.mk fun _ => ?_; (try refine sx_use ?_)))))
      exact SxRound.mk (k + 1) [0, 1] rfl rfl rfl ⟨hlt, by omega⟩ (by omega)
  obtain rfl : k = N := by omega
  have had := allB_data (ps.take k)
  by_cases h20 : n ≤ 20
  · have hkn : k = ps.length := by omega
    have hpsn : ps.length = n := by omega
    have htk : ps.take k = ps := by rw [hkn, List.take_length]
    rw [htk] at hjl hsz had ⊢
    ((try refine sx_use ?_); (repeat (refine SxNew.mk fun _ => ?_; (try refine sx_use ?_))))
    refine SxCall.quietS (v := .agg (tab 32 (sumV (shaS (joinL ps)))).toArray) (fun w1 hs => by
      have h5 := Sum_any ps (by omega) (by omega) ao cap w1 (by have := hs.rd 1 rfl; rw [strE_map] at this; exact this)
      rw [hpsn] at h5
      exact h5) ?_
    ((try refine sx_use ?_); (repeat (refine SxNew.mk fun _ => ?_; (try refine sx_use ?_))))
    refine SxCall.rsum _ _ had (by omega) ?_
    ((try refine sx_use ?_); (repeat (refine SxNew.mk fun _ => ?_; (try refine sx_use ?_))))
    refine SxRun.eq 3 rfl (ks := reps 32 [.int .u8]) rfl rfl (by kernel_rfl) rfl rfl rfl ?_
    ((try refine sx_use ?_); (repeat (refine SxNew.mk fun _ => ?_; (try refine sx_use ?_))))
    refine SxIf.at ((cellsEq_iff (tab32_ok _) (tab32_ok _)).2 rfl) ?_
    ((try refine sx_use ?_); (repeat (refine SxNew.mk fun _ => ?_; (try refine sx_use ?_))))
    refine SxCall.hsum 0 (by omega) rfl ?_
    ((try refine sx_use ?_); (repeat (refine SxNew.mk fun _ => ?_; (try refine sx_use ?_))))
    refine SxCall.rsum _ _ had (by omega) ?_
    ((try refine sx_use ?_); (repeat (refine SxNew.mk fun _ => ?_; (try refine sx_use ?_))))
    refine SxRun.eq 3 rfl (ks := reps 32 [.int .u8]) rfl rfl (by kernel_rfl) rfl rfl rfl ?_
    ((try refine sx_use ?_); (repeat (refine SxNew.mk fun _ => ?_; (try refine sx_use ?_))))
    refine SxIf.at ((cellsEq_iff (tab32_ok _) (tab32_ok _)).2 rfl) ?_
    ((try refine sx_use ?_); (repeat (refine SxNew.mk fun _ => ?_; (try refine sx_use ?_))))
    refine SxCall.hlen 0 rfl ?_
    ((try refine sx_use ?_); (repeat (refine SxNew.mk fun _ => ?_; (try refine sx_use ?_))))
    (try refine SxIf.eqT (by omega) ?_)
    (try ((try refine sx_use ?_); (repeat (refine SxNew.mk fun _ => ?_; (try refine sx_use ?_)))))
    refine SxCall.quiet awake_any ?_
    ((try refine sx_use ?_); (repeat (refine SxNew.mk fun _ => ?_; (try refine sx_use ?_))))
    exact SxDone.mk fun w' hs => ⟨rfl, hs.touch.below⟩
  · ((try refine sx_use ?_); (repeat (refine SxNew.mk fun _ => ?_; (try refine sx_use ?_))))
    refine SxCall.quiet awake_any ?_
    ((try refine sx_use ?_); (repeat (refine SxNew.mk fun _ => ?_; (try refine sx_use ?_))))
    exact SxDone.mk fun w' hs => ⟨rfl, hs.touch.below⟩
end Go.Proofs.Ytoacohlbelfkcaa

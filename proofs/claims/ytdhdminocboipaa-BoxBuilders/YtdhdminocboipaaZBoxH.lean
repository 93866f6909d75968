/- The walk: box.Build. -/
import Derived.Test.YtdhdminocboipaaZBoxG
namespace Go.Proofs.Ytdhdminocboipaa
open Go.RowKit

section
variable {W : World} {M : List Nat} {H : Hp} {w : World}
theorem byteCells_append (l m : List UInt8) : Go.Lib.byteCells (l ++ m) = Go.Lib.byteCells l ++ Go.Lib.byteCells m := by simp [Go.Lib.byteCells]
theorem WS_list (hs : Sat W M H w) (p q b : Nat) (ao : Option Addr) (cap : Nat) (pv : Value) (l m : List UInt8) (hp : H[p]? = some (sbE b pv (.slice ao l.length cap))) (hpv : selfP b pv) (hpq : q ≠ p) (hq : H[q]? = some (.row ao l.length cap 5 1 (Go.Lib.byteCells l))) (hlen : l.length + m.length ≤ 140737488355328) :
    Calls Try.prog 43 #[.pointer (some ⟨b, 0, none⟩), txV m] w fun e w' => ∃ ao' cap', e = .returned (.tuple #[.int .i64 (m.length : Nat), .nilIface]) ∧ Sat W M ((H.set q (.row ao' (l ++ m).length cap' 5 1 (Go.Lib.byteCells (l ++ m)))).set p (sbE b (.pointer (some ⟨b, 0, none⟩)) (.slice ao' (l ++ m).length cap'))) w' := by
  have h := WriteString_sat hs p q b ao l.length cap pv (Go.Lib.byteCells l) hp hpv hpq hq ⟨m.toArray⟩ (by rw [mk_size]; exact hlen)
  rw [byteCells_append, List.length_append]
  exact h
theorem String_list (hs : Sat W [] H w) (p q b : Nat) (ao : Option Addr) (cap : Nat) (pv : Value) (l : List UInt8) (hp : H[p]? = some (sbE b pv (.slice ao l.length cap))) (hpv : selfP b pv) (hpq : q ≠ p) (hq : H[q]? = some (.row ao l.length cap 5 1 (Go.Lib.byteCells l))) :
    Calls Try.prog 48 #[.pointer (some ⟨b, 0, none⟩)] w fun e w' => e = .returned (txV l) ∧ ∀ H0, Sat W [] H0 W → Sat W [] H0 w' := String_sat hs p q b ao l.length cap pv l hp hpv hpq hq
end
theorem join_flat : ∀ (ls : List (List UInt8)), Go.Lib.join ls [] = ls.flatten
  | [] => rfl
  | x :: ls => by rw [Go.Lib.join_cons, Go.Lib.joinTail]; simp
theorem Join_any (ls : List (List UInt8)) (ao : Option Addr) (cap : Nat) (hcap : ls.length ≤ cap) (w : World) (hr : Rd w ao (ls.map txV)) (hl : ls.length ≤ 1000) (hx : ∀ x ∈ ls, x.length < 65536) (h0 : 0 < ls.length) :
    Calls Try.prog 49 #[.slice ao ls.length cap, .string ⟨#[]⟩] w fun e w' => e = .returned (txV ls.flatten) ∧ Below w.heap.size w w' := by
  obtain ⟨g, off, rfl, hg, hc⟩ := hr.2 (by simpa using h0)
  have hm : ∀ ks : List (List UInt8), ((ks.map fun x => (⟨x.toArray⟩ : ByteArray)).map (·.data.toList)) = ks := fun ks => by rw [List.map_map]; simp [Function.comp_def]
  have hfl := flatten_le (B := 65536) ls fun x hm => by have := hx x hm; omega
  have h := Try.strings_Join g off cap (ls.map fun x => ⟨x.toArray⟩) ⟨#[]⟩ w (by
    intro j x hj
    rw [List.getElem?_map] at hj
    cases hlj : ls[j]? with
    | none => rw [hlj] at hj; cases hj
    | some y =>
      rw [hlj] at hj
      simp only [Option.map_some, Option.some.injEq] at hj
      subst hj
      have hjl := (List.getElem?_eq_some_iff.1 hlj).1
      rw [hc j (by simpa using hjl), txV_get hlj]
      rfl) hg (by simp; omega) (by simpa using hcap) (by
    rw [hm]
    show (Go.Lib.join ls []).length ≤ _
    rw [join_flat]
    have : 65536 * ls.length ≤ 65536 * 1000 := Nat.mul_le_mul_left _ hl
    omega)
  rw [hm] at h
  have e : (⟨#[]⟩ : ByteArray).data.toList = [] := rfl
  rw [e, join_flat, List.length_map] at h
  exact h
theorem bu32_any (x : Int) (h : 0 ≤ x ∧ x < 4294967296) (w : World) : Calls Try.prog 44 #[.int .u32 x] w fun e w' => e = .returned (txV (numL x.toNat 4)) ∧ Below w.heap.size w w' := by
  have h2 := U32_any x.toNat (by omega) w
  rwa [show ((x.toNat : Nat) : Int) = x by omega] at h2
theorem bu16_any (x : Int) (h : 0 ≤ x ∧ x < 65536) (w : World) : Calls Try.prog 45 #[.int .u16 x] w fun e w' => e = .returned (txV (numL x.toNat 2)) ∧ Below w.heap.size w w' := by
  have h2 := PU16_any x.toNat (by omega) w
  rwa [show ((x.toNat : Nat) : Int) = x by omega] at h2
/-- What box.Build answers. -/
noncomputable def buildV (id : Int) (ls : List (List UInt8)) : Value := if mayB id ls = true then .tuple #[txV (buildL id ls), .int .i64 0] else .tuple #[.string ⟨#[]⟩, .int .i64 1]
theorem may_pos {id : Int} {ls : List (List UInt8)} (h : mayB id ls = true) : 0 < ls.length := by
  unfold mayB at h
  rw [Bool.and_eq_true] at h
  have h2 : lensP (lenL ls) := by simpa [lensB] using h.2
  have := h2.1
  simp [lenL] at this
  omega
theorem BBuild_any (id : Int) (h0 : 0 ≤ id ∧ id < 4294967296) (ls : List (List UInt8)) (ao : Option Addr) (cap : Nat) (hcap : ls.length ≤ cap) (w : World) (hr : Rd w ao (ls.map txV)) (hl : ls.length ≤ 1000) (hx : ∀ x ∈ ls, x.length < 65536) :
    Calls Try.prog 18 #[.int .u32 id, .slice ao ls.length cap] w fun e w' => e = .returned (buildV id ls) ∧ Below w.heap.size w w' := by
  refine sx_fn (S := SX) (M := []) (N := 49) (H0 := [.row none 0 0 5 1 [], .rd ao (ls.map txV)]) Try.func18 rfl rfl rfl ((Sat.oneRd _ hr).nilRow 5 1) ?_
  ((try refine sx_use ?_); (repeat (refine SxNew.mk fun _ => ?_; (try refine sx_use ?_))))
  refine SxCall.quietS (fun w hs => Check_any id ls ao cap w (hs.rd 1 rfl) (by omega)) ?_
  ((try refine sx_use ?_); (repeat (refine SxNew.mk fun _ => ?_; (try refine sx_use ?_))))
  by_cases hm : mayB id ls = true
  · rw [hm]
    have h1 := may_pos hm
    ((try refine sx_use ?_); (repeat (refine SxNew.mk fun _ => ?_; (try refine sx_use ?_))))
    rename_i b
    refine SxCall.quiet (bu32_any id h0) ?_
    ((try refine sx_use ?_); (repeat (refine SxNew.mk fun _ => ?_; (try refine sx_use ?_))))
    refine SxLe.mk (by show 4 + (numL id.toNat 4).length ≤ _; rw [numL_length]; omega) ?_
    ((try refine sx_use ?_); (repeat (refine SxNew.mk fun _ => ?_; (try refine sx_use ?_))))
    refine SxRng.u16 (by omega) (by omega) ?_
    ((try refine sx_use ?_); (repeat (refine SxNew.mk fun _ => ?_; (try refine sx_use ?_))))
    refine SxCall.quiet (bu16_any (ls.length : Nat) (by omega)) ?_
    ((try refine sx_use ?_); (repeat (refine SxNew.mk fun _ => ?_; (try refine sx_use ?_))))
    refine SxLe.mk (by rw [ByteArray.size_append]; show 4 + (numL id.toNat 4).length + (numL _ 2).length ≤ _; rw [numL_length, numL_length]; omega) ?_
    ((try refine sx_use ?_); (repeat (refine SxNew.mk fun _ => ?_; (try refine sx_use ?_))))
    have hpre : ((⟨#[83, 66, 79, 88]⟩ : ByteArray) ++ ⟨(numL id.toNat 4).toArray⟩ ++ ⟨(numL ((ls.length : Int)).toNat 2).toArray⟩) = ⟨(preL id (slOf ls).length).toArray⟩ := by
      rw [show (⟨#[83, 66, 79, 88]⟩ : ByteArray) = ⟨[83, 66, 79, 88].toArray⟩ from rfl, mk_append, mk_append, slOf_len]
      simp [preL]
    refine SxCall.mk fun w hs => ?_
    refine Calls.mono (by rw [show Value.string _ = txV (preL id (slOf ls).length) from congrArg Value.string hpre]; exact WS_list hs 0 1 b none 0 _ [] (preL id (slOf ls).length) rfl (.inl rfl) (by decide) rfl (by rw [preL_len]; decide)) ?_
    rintro e w' ⟨ao1, cap1, rfl, hs'⟩
    refine ⟨_, [sbE b (.pointer (some ⟨b, 0, none⟩)) (.slice ao1 (preL id (slOf ls).length).length cap1), .row ao1 (preL id (slOf ls).length).length cap1 5 1 (Go.Lib.byteCells (preL id (slOf ls).length)), .rd ao (ls.map txV)], rfl, hs', ?_⟩
    clear hs' hs w w'
    ((try refine sx_use ?_); (repeat (refine SxNew.mk fun _ => ?_; (try refine sx_use ?_))))
    refine SxCall.newRow (fun w hs => of_any id ls ao cap w (hs.rd 2 rfl) (by omega) (fun x hm => by have := hx x hm; omega)) fun bo bc => ?_
    ((try refine sx_use ?_); (repeat (refine SxNew.mk fun _ => ?_; (try refine sx_use ?_))))
    have hf := okF_slOf hx
    refine SxCode.loop (σ := Nat × Option Addr × Nat) [30] [31, 32, 33, 9, 34, 35, 36, 37, 38, 39, 40, 41, 42, 43, 30] (fun s => [.int .i64 (s.1 : Nat)])
      (fun s => [.row bo ls.length bc 70 2 ((slOf ls).flatMap encS), sbE b (.pointer (some ⟨b, 0, none⟩)) (.slice s.2.1 (preL id (slOf ls).length ++ ((slOf ls).take s.1).flatMap encB).length s.2.2), .row s.2.1 (preL id (slOf ls).length ++ ((slOf ls).take s.1).flatMap encB).length s.2.2 5 1 (Go.Lib.byteCells (preL id (slOf ls).length ++ ((slOf ls).take s.1).flatMap encB)), .rd ao (ls.map txV)])
      (fun s => s.1 ≤ ls.length) (fun s => ls.length - s.1) (0, ao1, cap1) [0, 1, 2, 3] rfl rfl ?_ rfl (Nat.zero_le _) ?_
    · simp; rfl
    rintro ⟨k, ko, kc⟩ hk
    dsimp only at hk ⊢
    ((try refine sx_use ?_); (repeat (refine SxNew.mk fun _ => ?_; (try refine sx_use ?_))))
    refine SxIf.dec (fun h => ?_) (fun h => ?_)
    · have hlt : k < ls.length := by omega
      have hlt2 : k < (slOf ls).length := by rw [slOf_len]; exact hlt
      obtain ⟨x, hx0⟩ : ∃ x, (slOf ls)[k]? = some x := ⟨(slOf ls)[k], by simp [hlt2]⟩
      have hfx := hf x (List.mem_of_getElem? hx0)
      ((try refine sx_use ?_); (repeat (refine SxNew.mk fun _ => ?_; (try refine sx_use ?_))))
      refine SxIA.row 0 _ _ _ rfl k rfl hlt fun g he => ?_
      ((try refine sx_use ?_); (repeat (refine SxNew.mk fun _ => ?_; (try refine sx_use ?_))))
      refine SxLdN.row 0 rfl he rfl (vs := encS x) rfl (flat_get encS 2 (fun _ => rfl) (slOf ls) k x hx0) ?_
      ((try refine sx_use ?_); (repeat (refine SxNew.mk fun _ => ?_; (try refine sx_use ?_))))
      rename_i g2
      refine SxCode.draw rfl [.blk g2 70 (encS x)] [] [0] rfl rfl ?_
      ((try refine sx_use ?_); (repeat (refine SxNew.mk fun _ => ?_; (try refine sx_use ?_))))
      refine SxRng.u16 (by omega) (by omega) ?_
      ((try refine sx_use ?_); (repeat (refine SxNew.mk fun _ => ?_; (try refine sx_use ?_))))
      refine SxCall.quiet (bu16_any x.1 (by omega)) ?_
      ((try refine sx_use ?_); (repeat (refine SxNew.mk fun _ => ?_; (try refine sx_use ?_))))
      refine SxCall.quiet (bu32_any x.2 (by omega)) ?_
      ((try refine sx_use ?_); (repeat (refine SxNew.mk fun _ => ?_; (try refine sx_use ?_))))
      refine SxLe.mk (by show (numL x.1.toNat 2).length + (numL x.2.toNat 4).length ≤ _; rw [numL_length, numL_length]; omega) ?_
      ((try refine sx_use ?_); (repeat (refine SxNew.mk fun _ => ?_; (try refine sx_use ?_))))
      have hal : (preL id (slOf ls).length ++ ((slOf ls).take k).flatMap encB).length = 10 + 6 * k := by rw [List.length_append, preL_len, flatB_len, List.length_take, Nat.min_eq_left (by omega)]
      have henc : ((⟨(numL x.1.toNat 2).toArray⟩ : ByteArray) ++ ⟨(numL x.2.toNat 4).toArray⟩) = ⟨(encB x).toArray⟩ := mk_append _ _
      have hsn : preL id (slOf ls).length ++ ((slOf ls).take k).flatMap encB ++ encB x = preL id (slOf ls).length ++ ((slOf ls).take (k + 1)).flatMap encB := by
        rw [List.take_add_one, hx0]; simp
      refine SxCall.mk fun w hs => ?_
      refine Calls.mono (by rw [show Value.string _ = txV (encB x) from congrArg Value.string henc]; exact WS_list hs 2 3 b ko kc _ _ (encB x) rfl (.inr rfl) (by decide) rfl (by rw [hal, encB_len]; omega)) ?_
      rintro e w' ⟨ao2, cap2, rfl, hs'⟩
      rw [hsn] at hs'
      refine ⟨_, [.blk g2 70 (encS x), .row bo ls.length bc 70 2 ((slOf ls).flatMap encS), sbE b (.pointer (some ⟨b, 0, none⟩)) (.slice ao2 (preL id (slOf ls).length ++ ((slOf ls).take (k + 1)).flatMap encB).length cap2), .row ao2 (preL id (slOf ls).length ++ ((slOf ls).take (k + 1)).flatMap encB).length cap2 5 1 (Go.Lib.byteCells (preL id (slOf ls).length ++ ((slOf ls).take (k + 1)).flatMap encB)), .rd ao (ls.map txV)], rfl, hs', ?_⟩
      clear hs' hs w w'
      ((try refine sx_use ?_); (repeat (refine SxNew.mk fun _ => ?_; (try refine sx_use ?_))))
      exact SxRound.mk (k + 1, ao2, cap2) [1, 2, 3, 4] rfl rfl rfl hlt (by simp; omega)
    · obtain rfl : k = ls.length := by omega
      rw [show (slOf ls).take ls.length = slOf ls from by rw [← slOf_len ls, List.take_length]]
      ((try refine sx_use ?_); (repeat (refine SxNew.mk fun _ => ?_; (try refine sx_use ?_))))
      refine SxCall.mk fun w hs => (String_list hs 1 2 b ko kc _ (frontL id (slOf ls)) rfl (.inr rfl) (by decide) rfl).mono ?_
      rintro e w' ⟨rfl, hs'⟩
      refine ⟨_, [.rd ao (ls.map txV)], rfl, hs' _ (Sat.oneRd _ hr), ?_⟩
      clear hs' hs w'
      have hfl := frontL_len id (slOf ls)
      rw [slOf_len] at hfl
      ((try refine sx_use ?_); (repeat (refine SxNew.mk fun _ => ?_; (try refine sx_use ?_))))
      refine SxCall.quiet (bseal_any (frontL id (slOf ls)) (by omega)) ?_
      ((try refine sx_use ?_); (repeat (refine SxNew.mk fun _ => ?_; (try refine sx_use ?_))))
      refine SxCall.quietS (fun w hs => Join_any ls ao cap hcap w (hs.rd 0 rfl) hl hx h1) ?_
      ((try refine sx_use ?_); (repeat (refine SxNew.mk fun _ => ?_; (try refine sx_use ?_))))
      have hjl := flatten_le (B := 65536) ls fun x hm => by have := hx x hm; omega
      have hjl2 : 65536 * ls.length ≤ 65536 * 1000 := Nat.mul_le_mul_left _ hl
      refine SxLe.mk (by show (sealL (frontL id (slOf ls))).length + ls.flatten.length ≤ _; rw [sealL_len]; omega) ?_
      ((try refine sx_use ?_); (repeat (refine SxNew.mk fun _ => ?_; (try refine sx_use ?_))))
      refine SxDone.mk fun w' hs => ⟨?_, hs.touch.below⟩
      unfold buildV buildL
      rw [if_pos hm]
      show Ending.returned (.tuple #[.string (_ ++ _), _]) = _
      rw [mk_append]
      rfl
  · have hmf : mayB id ls = false := by simpa using hm
    rw [hmf]
    ((try refine sx_use ?_); (repeat (refine SxNew.mk fun _ => ?_; (try refine sx_use ?_))))
    exact SxDone.mk fun w' hs => ⟨by unfold buildV; rw [hmf]; rfl, hs.touch.below⟩
end Go.Proofs.Ytdhdminocboipaa

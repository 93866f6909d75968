/- The walks of layer 32: what split refuses; Keep, Drop. -/
import Derived.Test.YtiobcjahgmkmiaaZRtI
namespace Go.Proofs.Ytiobcjahgmkmiaa
open Go.RowKit

def errK (p : Pol) : Int := if mayP p then 5 else 1
theorem polC_at (p : Pol) (k : Nat) (h : k < 4) : (polC p)[k]? = some (.int .i64 (p.at k)) := by
  have hc : k = 0 ∨ k = 1 ∨ k = 2 ∨ k = 3 := by omega
  rcases hc with rfl | rfl | rfl | rfl <;> rfl
theorem mayP_at {p : Pol} : mayP p ↔ ∀ j, j < 4 → okN (p.at j) := by
  constructor
  · rintro ⟨h1, h2, h3, h4⟩ j hj
    have hc : j = 0 ∨ j = 1 ∨ j = 2 ∨ j = 3 := by omega
    rcases hc with rfl | rfl | rfl | rfl
    · exact h1
    · exact h2
    · exact h3
    · exact h4
  · intro h
    exact ⟨h 0 (by omega), h 1 (by omega), h 2 (by omega), h 3 (by omega)⟩
set_option maxHeartbeats 2000000 in
theorem split_err (p : Pol) (l : List Bk) (hl : l.length ≤ 100000) (hno : ¬ (mayP p ∧ mayD l)) (ao : Option Addr) (cap : Nat) (w : World) (hr : Rd w ao (bkE.fl l)) :
    Calls Try.prog 41 #[.agg (polC p).toArray, .slice ao l.length cap] w fun e w' => e = .returned (.tuple #[.slice none 0 0, .slice none 0 0, .int .i64 (errK p)]) ∧ Below w.heap.size w w' := by
  refine sx_fn (S := SX) (M := []) (N := 134) (H0 := [.rd ao (bkE.fl l)]) Try.func41 rfl rfl rfl (Sat.oneRd _ hr) ?_
  ((try refine sx_use ?_); (repeat (refine SxNew.mk fun _ => ?_; (try refine sx_use ?_))))
  rename_i gp g4
  refine SxCode.loop (σ := Nat) [32, 4, 5, 6] [33, 34, 35, 8, 36, 37, 38, 39, 40, 41, 4, 5, 6, 42, 32] (fun k => [.int .i64 (k : Nat), .slice none 0 0, .slice none 0 0, .int .i64 0]) (fun _ => [.row (some ⟨g4, 0, none⟩) 4 4 3 1 (polC p), .rd ao (bkE.fl l)]) (fun k => k ≤ 4 ∧ ∀ j, j < k → okN (p.at j)) (fun k => 4 - k) 0 [0, 2] rfl rfl rfl rfl ⟨Nat.zero_le _, fun j hj => absurd hj (Nat.not_lt_zero _)⟩ ?_
  rintro k ⟨hk, hall⟩
  by_cases hk4 : k < 4
  · have bad : ¬ okN (p.at k) → errK p = 1 := fun h => by unfold errK; rw [if_neg fun hp => h (mayP_at.1 hp k hk4)]
    ((try refine sx_use ?_); (repeat (refine SxNew.mk fun _ => ?_; (try refine sx_use ?_))))
    refine SxIA.row 0 _ _ _ rfl k rfl hk4 fun g' hg' => ?_
    obtain rfl : g4 = g' := by simpa using hg'
    ((try refine sx_use ?_); (repeat (refine SxNew.mk fun _ => ?_; (try refine sx_use ?_))))
    refine SxLd.row 0 rfl rfl rfl (by rw [Nat.mul_one]; exact polC_at p k hk4) ?_
    ((try refine sx_use ?_); (repeat (refine SxNew.mk fun _ => ?_; (try refine sx_use ?_))))
    refine SxIf.dec (fun h1 => ?_) (fun h1 => ?_)
    · ((try refine sx_use ?_); (repeat (refine SxNew.mk fun _ => ?_; (try refine sx_use ?_))))
      exact SxDone.mk fun w' hs => ⟨by rw [bad fun h => by have := h.1; omega]; rfl, hs.touch.below⟩
    · ((try refine sx_use ?_); (repeat (refine SxNew.mk fun _ => ?_; (try refine sx_use ?_))))
      refine SxIf.dec (fun h2 => ?_) (fun h2 => ?_)
      · ((try refine sx_use ?_); (repeat (refine SxNew.mk fun _ => ?_; (try refine sx_use ?_))))
        exact SxDone.mk fun w' hs => ⟨by rw [bad fun h => by have := h.2; omega]; rfl, hs.touch.below⟩
      · ((try refine sx_use ?_); (repeat (refine SxNew.mk fun _ => ?_; (try refine sx_use ?_))))
        refine SxRound.mk (k + 1) [0, 1] rfl rfl rfl ⟨by omega, fun j hj => ?_⟩ (by omega)
        rcases Nat.lt_succ_iff_lt_or_eq.1 hj with h3 | h3
        · exact hall j h3
        · subst h3; exact ⟨by omega, by omega⟩
  obtain rfl : k = 4 := by omega
  have hp : mayP p := mayP_at.2 hall
  have he : errK p = 5 := by unfold errK; rw [if_pos hp]
  clear hk hk4
  ((try refine sx_use ?_); (repeat (refine SxNew.mk fun _ => ?_; (try refine sx_use ?_))))
  refine SxCode.loop (σ := Nat) [45, 4, 5, 6] [46, 47, 48, 10, 49, 50, 51, 52, 53, 54, 55, 56, 4, 5, 6, 57, 45] (fun k => [.int .i64 (k : Nat), .slice none 0 0, .slice none 0 0, .int .i64 0]) (fun _ => [.rd ao (bkE.fl l)]) (fun k => k ≤ l.length ∧ ∀ b ∈ l.take k, inDays b.day) (fun k => l.length - k) 0 [1] rfl rfl rfl rfl ⟨Nat.zero_le _, fun b hb => by simp at hb⟩ ?_
  rintro k ⟨hk, hd⟩
  ((try refine sx_use ?_); (repeat (refine SxNew.mk fun _ => ?_; (try refine sx_use ?_))))
  refine SxIf.dec (fun h => ?_) (fun h => ?_)
  · have hlt : k < l.length := by omega
    obtain ⟨b, hb⟩ : ∃ b, l[k]? = some b := ⟨l[k], by simp [hlt]⟩
    ((try refine sx_use ?_); (repeat (refine SxNew.mk fun _ => ?_; (try refine sx_use ?_))))
    refine SxIA.rd 0 _ rfl k rfl hlt (by rw [rowBk_len]; omega) fun g off ha => ?_
    ((try refine sx_use ?_); (repeat (refine SxNew.mk fun _ => ?_; (try refine sx_use ?_))))
    refine SxLdN.rd 0 rfl ha rfl (vs := bkC b) rfl (rowBk_at hb) ?_
    ((try refine sx_use ?_); (repeat (refine SxNew.mk fun _ => ?_; (try refine sx_use ?_))))
    refine SxIf.dec (fun h1 => ?_) (fun h1 => ?_)
    · ((try refine sx_use ?_); (repeat (refine SxNew.mk fun _ => ?_; (try refine sx_use ?_))))
      exact SxDone.mk fun w' hs => ⟨by rw [he]; rfl, hs.touch.below⟩
    · ((try refine sx_use ?_); (repeat (refine SxNew.mk fun _ => ?_; (try refine sx_use ?_))))
      refine SxIf.dec (fun h2 => ?_) (fun h2 => ?_)
      · ((try refine sx_use ?_); (repeat (refine SxNew.mk fun _ => ?_; (try refine sx_use ?_))))
        exact SxDone.mk fun w' hs => ⟨by rw [he]; rfl, hs.touch.below⟩
      · ((try refine sx_use ?_); (repeat (refine SxNew.mk fun _ => ?_; (try refine sx_use ?_))))
        refine SxRound.mk (k + 1) [1] rfl rfl rfl ⟨hlt, fun x hx => ?_⟩ (by omega)
        rw [take_snocE hb, List.mem_append, List.mem_singleton] at hx
        rcases hx with hx | hx
        · exact hd x hx
        · subst hx; exact ⟨by omega, by omega⟩
  · obtain rfl : k = l.length := by omega
    rw [List.take_length] at hd
    exact absurd ⟨hp, hd⟩ hno
theorem Keep_ok (p : Pol) (l : List Bk) (hl : l.length ≤ 100000) (hp : mayP p) (hd : mayD l) (ao : Option Addr) (cap : Nat) (w : World) (hr : Rd w ao (bkE.fl l)) :
    Calls Try.prog 24 #[.agg (polC p).toArray, .slice ao l.length cap] w fun e w' => ∃ a1 c1, e = .returned (.tuple #[.slice a1 (keptK p l).1.length c1, .int .i64 0]) ∧ NewRow w w' a1 (keptK p l).1.length c1 55 2 (bkE.fl (keptK p l).1) := by
  refine sx_fn (S := SX) (M := []) (N := 18) (H0 := [.rd ao (bkE.fl l)]) Try.func24 rfl rfl rfl (Sat.oneRd _ hr) ?_
  ((try refine sx_use ?_); (repeat (refine SxNew.mk fun _ => ?_; (try refine sx_use ?_))))
  refine SxCall.mk fun w hs => (split_ok p l hl hp hd ao cap w (hs.rd 1 rfl)).mono ?_
  rintro e w' ⟨a1, c1, a2, c2, rfl, h1, h2⟩
  refine ⟨_, _, rfl, hs.addNew h1, ?_⟩
  ((try refine sx_use ?_); (repeat (refine SxNew.mk fun _ => ?_; (try refine sx_use ?_))))
  exact SxDone.mk fun w' hs => ⟨_, _, rfl, hs.newRow 0 rfl⟩
theorem Keep_err (p : Pol) (l : List Bk) (hl : l.length ≤ 100000) (hno : ¬ (mayP p ∧ mayD l)) (ao : Option Addr) (cap : Nat) (w : World) (hr : Rd w ao (bkE.fl l)) :
    Calls Try.prog 24 #[.agg (polC p).toArray, .slice ao l.length cap] w fun e w' => e = .returned (.tuple #[.slice none 0 0, .int .i64 (errK p)]) ∧ Below w.heap.size w w' := by
  refine sx_fn (S := SX) (M := []) (N := 18) (H0 := [.rd ao (bkE.fl l)]) Try.func24 rfl rfl rfl (Sat.oneRd _ hr) ?_
  ((try refine sx_use ?_); (repeat (refine SxNew.mk fun _ => ?_; (try refine sx_use ?_))))
  refine SxCall.quietS (fun w hs => split_err p l hl hno ao cap w (hs.rd 1 rfl)) ?_
  ((try refine sx_use ?_); (repeat (refine SxNew.mk fun _ => ?_; (try refine sx_use ?_))))
  exact SxDone.mk fun w' hs => ⟨rfl, hs.touch.below⟩
theorem Drop_ok (p : Pol) (l : List Bk) (hl : l.length ≤ 100000) (hp : mayP p) (hd : mayD l) (ao : Option Addr) (cap : Nat) (w : World) (hr : Rd w ao (bkE.fl l)) :
    Calls Try.prog 26 #[.agg (polC p).toArray, .slice ao l.length cap] w fun e w' => ∃ a1 c1, e = .returned (.tuple #[.slice a1 (keptK p l).2.length c1, .int .i64 0]) ∧ NewRow w w' a1 (keptK p l).2.length c1 55 2 (bkE.fl (keptK p l).2) := by
  refine sx_fn (S := SX) (M := []) (N := 18) (H0 := [.rd ao (bkE.fl l)]) Try.func26 rfl rfl rfl (Sat.oneRd _ hr) ?_
  ((try refine sx_use ?_); (repeat (refine SxNew.mk fun _ => ?_; (try refine sx_use ?_))))
  refine SxCall.mk fun w hs => (split_ok p l hl hp hd ao cap w (hs.rd 1 rfl)).mono ?_
  rintro e w' ⟨a1, c1, a2, c2, rfl, h1, h2⟩
  refine ⟨_, _, rfl, hs.addNew h2, ?_⟩
  ((try refine sx_use ?_); (repeat (refine SxNew.mk fun _ => ?_; (try refine sx_use ?_))))
  exact SxDone.mk fun w' hs => ⟨_, _, rfl, hs.newRow 0 rfl⟩
theorem Drop_err (p : Pol) (l : List Bk) (hl : l.length ≤ 100000) (hno : ¬ (mayP p ∧ mayD l)) (ao : Option Addr) (cap : Nat) (w : World) (hr : Rd w ao (bkE.fl l)) :
    Calls Try.prog 26 #[.agg (polC p).toArray, .slice ao l.length cap] w fun e w' => e = .returned (.tuple #[.slice none 0 0, .int .i64 (errK p)]) ∧ Below w.heap.size w w' := by
  refine sx_fn (S := SX) (M := []) (N := 18) (H0 := [.rd ao (bkE.fl l)]) Try.func26 rfl rfl rfl (Sat.oneRd _ hr) ?_
  ((try refine sx_use ?_); (repeat (refine SxNew.mk fun _ => ?_; (try refine sx_use ?_))))
  refine SxCall.quietS (fun w hs => split_err p l hl hno ao cap w (hs.rd 1 rfl)) ?_
  ((try refine sx_use ?_); (repeat (refine SxNew.mk fun _ => ?_; (try refine sx_use ?_))))
  exact SxDone.mk fun w' hs => ⟨rfl, hs.touch.below⟩
end Go.Proofs.Ytiobcjahgmkmiaa

/- Layer 20: tables; made, New, Count. -/
import Derived.Test.YtcpbgacdoigpnaaZSxP
import Derived.Test.YtcpbgacdoigpnaaZPlA
import Derived.Test.YtcpbgacdoigpnaaZEnA
import Derived.Test.YtcpbgacdoigpnaaZSlPl
import Derived.Test.YtcpbgacdoigpnaaZSlEn
import Derived.Laws.Cover3
namespace Go.Proofs.Ytcpbgacdoigpnaa
open Go.RowKit

def plV (p : Pl) : Value := .agg (plC p).toArray
theorem plV_inj {p q : Pl} (h : plV p = plV q) : p = q := by
  unfold plV at h
  simp only [Value.agg.injEq] at h
  exact plC_inj (by simpa using congrArg Array.toList h)
def plKey : KeyT SX 25 := ⟨2, plK, _, rfl, rfl, rfl⟩
theorem plKey_ok (p : Pl) : plKey.ok (plV p) := ⟨rfl, rfl⟩
/-- A table's map. -/
def kvT (d : List (Pl × Nat)) : List (Value × Value) := d.map fun x => (plV x.1, .int .i64 (x.2 : Nat))
/-- A table has the counts of a list of places. -/
structure Tab (d : List (Pl × Nat)) (l : List Pl) : Prop where
  nd : (d.map (·.1)).Nodup
  cnt : ∀ p n, (p, n) ∈ d → n = l.count p ∧ 0 < n
  all : ∀ p, p ∈ l → ∃ n, (p, n) ∈ d
theorem Tab.nil : Tab [] [] := ⟨List.nodup_nil, fun p n h => by simp at h, fun p h => by simp at h⟩
theorem kvT_at {d : List (Pl × Nat)} {j : Nat} {p : Pl} {n : Nat} (h : d[j]? = some (p, n)) : (kvT d)[j]? = some (plV p, .int .i64 (n : Nat)) := by unfold kvT; rw [List.getElem?_map, h]; rfl
theorem kvT_no {d : List (Pl × Nat)} {p : Pl} (h : ∀ n, (p, n) ∉ d) : ∀ x ∈ kvT d, x.1 ≠ plV p := by
  intro x hx he
  obtain ⟨⟨q, n⟩, hq, rfl⟩ := List.mem_map.1 hx
  have : q = p := plV_inj he
  subst this
  exact h n hq
theorem kvT_append (d : List (Pl × Nat)) (p : Pl) (n : Nat) : kvT (d ++ [(p, n)]) = kvT d ++ [(plV p, .int .i64 (n : Nat))] := List.map_append
theorem kvT_set (d : List (Pl × Nat)) (j : Nat) (p : Pl) (n : Nat) : kvT (d.set j (p, n)) = (kvT d).set j (plV p, .int .i64 (n : Nat)) := List.map_set
theorem kvT_len (d : List (Pl × Nat)) : (kvT d).length = d.length := List.length_map ..
/-- Whether a place is in a table, and where. -/
theorem Tab.has {d : List (Pl × Nat)} {l : List Pl} (h : Tab d l) (p : Pl) : (∃ j : Nat, d[j]? = some (p, l.count p) ∧ 0 < l.count p) ∨ (l.count p = 0 ∧ ∀ n, (p, n) ∉ d) := by
  by_cases hp : p ∈ l
  · obtain ⟨n, hn⟩ := h.all p hp
    obtain ⟨e, h0⟩ := h.cnt p n hn
    subst e
    obtain ⟨j, hj⟩ := List.getElem?_of_mem hn
    exact .inl ⟨j, hj, h0⟩
  · have hc : l.count p = 0 := List.count_eq_zero.2 hp
    exact .inr ⟨hc, fun n hn => by have := h.cnt p n hn; omega⟩
theorem Tab.look {d : List (Pl × Nat)} {l : List Pl} (h : Tab d l) (p : Pl) : LookIs SX 3 (kvT d) (plV p) false (.int .i64 (l.count p : Nat)) := by
  rcases h.has p with ⟨j, hj, _⟩ | ⟨hc, hn⟩
  · exact .inl ⟨j, _, kvT_at hj, rfl⟩
  · exact .inr ⟨kvT_no hn, _, rfl, by rw [hc]; rfl⟩
theorem SxRun.mNeNil {P : Program} {t k e : Nat} {x y : Operand} {A : Value → Prop} (h : P.underlying t = some (.map k e)) {a : Option Nat} (hA : A (.bool !a.isNone)) : SxRun P (do eqGuard .neq t x y (.map a) (.map none); binOp .neq t (.map a) (.map none)) A := by
  refine ⟨_, fun w => ?_, hA⟩
  have h2 : (Op.equal t (.map a) (.map none)).run P w = .ok a.isNone w := run_equal_map_nil w t k e a h
  simp only [eqGuard, binOp]
  simp [h2]
def tabE (gt gm : Nat) : Ent := .blk gt 61 [.map (some gm)]
abbrev TabR (w : World) (gt gm : Nat) : Prop := Rd w (some ⟨gt, 0, none⟩) [.map (some gm)]
def tabR (gt gm : Nat) : Ent := .rd (some ⟨gt, 0, none⟩) [.map (some gm)]
abbrev MapT (w : World) (gm : Nat) (d : List (Pl × Nat)) : Prop := MapH plKey w gm (kvT d)
theorem tabR_of {W : World} {M : List Nat} {H : Hp} {w : World} (hs : Sat W M H w) (p : Nat) {gt gm : Nat} (hp : H[p]? = some (tabE gt gm)) : TabR w gt gm := Rd.of_blk (hs.blk p hp) (by show 1 ≤ maxLen; decide)
theorem mapT_of {W : World} {M : List Nat} {H : Hp} {w : World} (hs : Sat W M H w) (p : Nat) {gm : Nat} {d : List (Pl × Nat)} (hp : H[p]? = some (mapE plKey gm (kvT d))) : MapT w gm d := hs.holds p _ hp
theorem made_any (gt gm : Nat) (w : World) (ht : TabR w gt gm) : Calls Try.prog 21 #[.pointer (some ⟨gt, 0, none⟩)] w fun e w' => e = .returned (.bool true) ∧ Below w.heap.size w w' := by
  refine sx_fn (S := SX) (M := []) (H0 := [tabR gt gm]) (N := 12) Try.func21 rfl rfl rfl (Sat.oneRd _ ht) ?_
  ((try refine sx_use ?_); (repeat (refine SxNew.mk fun _ => ?_; (try refine sx_use ?_))))
  refine SxRun.pNeNil Try.underlying26 ?_
  ((try refine sx_use ?_); (repeat (refine SxNew.mk fun _ => ?_; (try refine sx_use ?_))))
  refine SxLd.rd 0 rfl rfl (j := 0) rfl rfl ?_
  ((try refine sx_use ?_); (repeat (refine SxNew.mk fun _ => ?_; (try refine sx_use ?_))))
  refine SxRun.mNeNil Try.underlying59 ?_
  ((try refine sx_use ?_); (repeat (refine SxNew.mk fun _ => ?_; (try refine sx_use ?_))))
  exact SxDone.mk fun w' hs => ⟨rfl, hs.touch.below⟩
theorem made_nil (w : World) : Calls Try.prog 21 #[.pointer none] w fun e w' => e = .returned (.bool false) ∧ Below w.heap.size w w' := by
  refine sx_fn (S := SX) (M := []) (N := 12) (H0 := []) Try.func21 rfl rfl rfl (Sat.nil _ _) ?_
  ((try refine sx_use ?_); (repeat (refine SxNew.mk fun _ => ?_; (try refine sx_use ?_))))
  refine SxRun.pNeNil Try.underlying26 ?_
  ((try refine sx_use ?_); (repeat (refine SxNew.mk fun _ => ?_; (try refine sx_use ?_))))
  exact SxDone.mk fun w' hs => ⟨rfl, hs.touch.below⟩
theorem Count_nil (w : World) (x : Pl) : Calls Try.prog 13 #[.pointer none, plV x] w fun e w' => e = .returned (.int .i64 0) ∧ Below w.heap.size w w' := by
  refine sx_fn (S := SX) (M := []) (N := 14) (H0 := []) Try.func13 rfl rfl rfl (Sat.nil _ _) ?_
  ((try refine sx_use ?_); (repeat (refine SxNew.mk fun _ => ?_; (try refine sx_use ?_))))
  refine SxCall.quiet made_nil ?_
  ((try refine sx_use ?_); (repeat (refine SxNew.mk fun _ => ?_; (try refine sx_use ?_))))
  exact SxDone.mk fun w' hs => ⟨rfl, hs.touch.below⟩
theorem two_reads {w : World} {gt gm : Nat} {d : List (Pl × Nat)} (ht : TabR w gt gm) (hm : MapT w gm d) (M : List Nat) : Sat w M [tabR gt gm, mapR plKey gm (kvT d)] w := Sat.rdsM w M _ fun i e hi => by
  match i, hi with
  | 0, hi => cases hi; exact ⟨rfl, ht⟩
  | 1, hi => cases hi; exact ⟨rfl, hm⟩
theorem Count_any (gt gm : Nat) (d : List (Pl × Nat)) (l : List Pl) (hd : Tab d l) (x : Pl) (w : World) (ht : TabR w gt gm) (hm : MapT w gm d) :
    Calls Try.prog 13 #[.pointer (some ⟨gt, 0, none⟩), plV x] w fun e w' => e = .returned (.int .i64 (l.count x : Nat)) ∧ Below w.heap.size w w' := by
  refine sx_fn (S := SX) (M := []) (H0 := [tabR gt gm, mapR plKey gm (kvT d)]) (N := 14) Try.func13 rfl rfl rfl (two_reads ht hm []) ?_
  ((try refine sx_use ?_); (repeat (refine SxNew.mk fun _ => ?_; (try refine sx_use ?_))))
  refine SxCall.quietS (fun w hs => made_any gt gm w (hs.rd 1 rfl)) ?_
  ((try refine sx_use ?_); (repeat (refine SxNew.mk fun _ => ?_; (try refine sx_use ?_))))
  refine SxCode.drawAll rfl [] ?_
  ((try refine sx_use ?_); (repeat (refine SxNew.mk fun _ => ?_; (try refine sx_use ?_))))
  refine SxLd.rd 1 rfl rfl (j := 0) rfl rfl ?_
  ((try refine sx_use ?_); (repeat (refine SxNew.mk fun _ => ?_; (try refine sx_use ?_))))
  refine SxSem.lookG plKey rfl Try.underlying59 rfl rfl (IsMap.r plKey (p := 2) rfl) (plKey_ok x) (hd.look x) ?_
  ((try refine sx_use ?_); (repeat (refine SxNew.mk fun _ => ?_; (try refine sx_use ?_))))
  exact SxDone.mk fun w' hs => ⟨rfl, hs.touch.below⟩
section
variable {W : World} {M : List Nat} {H : Hp} {w : World}
theorem New_sat (hs : Sat W M H w) : Calls Try.prog 6 #[] w fun e w' => ∃ gt gm, e = .returned (.pointer (some ⟨gt, 0, none⟩)) ∧ Sat W M (tabE gt gm :: mapE plKey gm (kvT []) :: H) w' := by
  refine sx_fn (S := SX) (N := 4) Try.func6 rfl rfl rfl hs ?_
  ((try refine sx_use ?_); (repeat (refine SxNew.mk fun _ => ?_; (try refine sx_use ?_))))
  refine SxSem.make plKey rfl fun gm => ?_
  ((try refine sx_use ?_); (repeat (refine SxNew.mk fun _ => ?_; (try refine sx_use ?_))))
  rename_i gt
  exact SxDone.mk fun w' hs => ⟨gt, gm, rfl, hs⟩
end
end Go.Proofs.Ytcpbgacdoigpnaa

/- The walks of layer 15: the document's Entry, May, Same; the program's Same. -/
import Derived.Test.YtdbappehchgbcaaGreatZMnA
namespace Go.Proofs.YtdbappehchgbcaaGreat
open Go.RowKit

theorem MSame_any (id jd : Int) (es fs : List En) (ao bo : Option Addr) (ac bc : Nat) (w : World) (ha : Rd w ao (enE.fl es)) (hb : Rd w bo (enE.fl fs)) :
    Calls Tryz.prog 17 #[mnV id ao es.length ac, mnV jd bo fs.length bc] w fun e w' => e = .returned (.bool (decide (id = jd ∧ es = fs))) ∧ Below w.heap.size w w' := by
  refine sx_fn (S := SX) (M := []) (N := 17) (H0 := [.rd ao (enE.fl es), .rd bo (enE.fl fs)]) Tryz.func17 rfl rfl rfl (Sat.twoRd _ ha hb) ?_
  ((try refine sx_use ?_); (repeat (refine SxNew.mk fun _ => ?_; (try refine sx_use ?_))))
  refine SxIf.eq (fun h => ?_) (fun h => ?_)
  · subst h
    ((try refine sx_use ?_); (repeat (refine SxNew.mk fun _ => ?_; (try refine sx_use ?_))))
    refine SxCall.quietS (fun w hs => EqualEn_any es fs ao bo ac bc w (hs.rd 2 rfl) (hs.rd 3 rfl)) ?_
    ((try refine sx_use ?_); (repeat (refine SxNew.mk fun _ => ?_; (try refine sx_use ?_))))
    refine SxDone.mk fun w' hs => ⟨?_, hs.touch.below⟩
    show Ending.returned (.bool (decide (es = fs))) = _
    congr 2
    rw [decide_eq_decide]
    exact ⟨fun h => ⟨rfl, h⟩, fun h => h.2⟩
  · ((try refine sx_use ?_); (repeat (refine SxNew.mk fun _ => ?_; (try refine sx_use ?_))))
    exact SxDone.mk fun w' hs => ⟨by rw [decide_eq_false (fun hh => h hh.1)]; rfl, hs.touch.below⟩
end Go.Proofs.YtdbappehchgbcaaGreat

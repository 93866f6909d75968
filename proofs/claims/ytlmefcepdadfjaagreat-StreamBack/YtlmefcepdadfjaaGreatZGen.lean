/- Texts of this claim, one behind the other. -/
import Derived.Test.YtlmefcepdadfjaaGreatZSxM
/- A symbolic walk: the steps that need nobody, as one word. No program is named here. -/
namespace Go.Proofs.YtlmefcepdadfjaaGreat
open Go.RowKit

inductive SxLeft (p : Prop) : Prop
  | mk (h : p)
theorem SxLeft.out {p : Prop} (h : SxLeft p) : p := by cases h with | mk h => exact h
theorem sU {G' G : Prop} (h : G') (r : SxLeft G' → G := by (intro h; (first | refine sx_seq ?_ | refine ops_run rfl (ops_nil ?_) | refine seqQ_n ?_ | refine blockQ_n ?_ | refine sx_block ?_ | refine sx_region rfl ?_ | refine sx_cond rfl ?_ | refine sx_exit ?_ | refine sx_skip ?_ | refine sx_ret ?_ | refine sx_loop ?_ | refine sx_draw ?_ | refine sx_label ?_ | refine seqQ_e ?_ | refine seqQ_r ?_ | refine blockQ_x ?_ | refine blockQ_e rfl ?_ | refine blockQ_r ?_ | refine loopQ_n ?_ | refine loopQ_e ?_ | refine loopQ_r ?_ | refine finQ_n rfl ?_ | refine finQ_r rfl ?_ | refine res_tmp rfl ?_ | refine res_nil ?_ | refine res_agg rfl rfl rfl ?_ | refine res_one rfl rfl rfl ?_ | (refine ops_run rfl (ops_op rfl ?_); conv => whnf) | refine ops_run rfl (ops_guard rfl rfl rfl rfl rfl ?_) | refine any_go rfl rfl (any_done rfl ?_) | (refine any_go rfl rfl (any_st rfl rfl ?_); conv => whnf) | (refine any_go rfl rfl (any_on rfl rfl rfl rfl ?_); conv => whnf) | refine any_go rfl rfl (any_gd rfl ?_) | ((fail_if_success with_reducible refine SxIf.dec (fun _ => ?_) (fun _ => ?_)); refine SxIf.tt ?_) | ((fail_if_success with_reducible refine SxIf.dec (fun _ => ?_) (fun _ => ?_)); refine SxIf.ff ?_) | refine SxRng.i64 (by omega) (by omega) ?_ | refine SxNz.mk (by omega) ?_ | refine SxQ.rem (by omega) (by omega) ?_ | refine SxQ.quo (by omega) (by omega) ?_ | refine SxSh.ofn ?_ | refine SxIf.yes (by omega) ?_ | refine SxIf.no (by omega) ?_ | ((fail_if_success with_reducible refine SxIf.dec (fun _ => ?_) (fun _ => ?_)); first | refine SxIf.eqT (by omega) ?_ | refine SxIf.eqF (by omega) ?_ | refine SxIf.neT (by omega) ?_ | refine SxIf.neF (by omega) ?_) | refine SxLd.blk 0 rfl rfl ?_ | refine SxLd.blk 1 rfl rfl ?_ | refine SxLd.blk 2 rfl rfl ?_ | refine SxLd.blk 3 rfl rfl ?_ | refine SxLd.blk 4 rfl rfl ?_ | refine SxLd.blk 5 rfl rfl ?_ | refine SxLd.blk 6 rfl rfl ?_ | refine SxLdN.blk 0 rfl rfl rfl ?_ | refine SxLdN.blk 1 rfl rfl rfl ?_ | refine SxLdN.blk 2 rfl rfl rfl ?_ | refine SxLdN.blk 3 rfl rfl rfl ?_ | refine SxLdN.blk 4 rfl rfl rfl ?_ | refine SxLdN.blk 5 rfl rfl rfl ?_ | refine SxNth.mk rfl ?_ | refine SxP.mk rfl ?_ | refine SxFill.fast rfl ?_ | refine SxFill.ok rfl rfl ?_ | refine SxP.mk ⟨rfl, by decide⟩ ?_ | refine SxP.mk ⟨by decide, rfl, by decide⟩ ?_ | refine SxSt.blk 0 rfl rfl rfl rfl ?_ | refine SxSt.blk 1 rfl rfl rfl rfl ?_ | refine SxSt.blk 2 rfl rfl rfl rfl ?_ | refine SxSt.blk 3 rfl rfl rfl rfl ?_ | refine SxSt.blk 4 rfl rfl rfl rfl ?_ | refine SxSt.blk 5 rfl rfl rfl rfl ?_ | refine SxStable.mk [] rfl rfl ?_ | refine SxStable.mk [0] rfl rfl ?_ | refine SxStable.mk [1] rfl rfl ?_ | refine SxStable.mk [0, 1] rfl rfl ?_ | refine SxStable.mk [1, 2] rfl rfl ?_ | refine SxStable.mk [2, 3] rfl rfl ?_ | refine SxStable.mk [0, 1, 2] rfl rfl ?_ | refine SxStable.mk [1, 2, 3] rfl rfl ?_ | refine SxStable.mk [2, 3, 4] rfl rfl ?_ | refine SxStable.mk [0, 1, 2, 3] rfl rfl ?_ | refine SxStable.mk [1, 2, 3, 4] rfl rfl ?_ | refine SxStable.mk [2, 3, 4, 5] rfl rfl ?_ | refine SxStable.mk (allI _) (pickH_all _) (nodupB_all _) ?_ | refine sx_goto ?_ | refine meetQ_n ?_ | refine meetQ_e ?_ | refine meetQ_r ?_ | refine meetQ_g ?_ | refine seqQ_g ?_ | refine blockQ_g ?_ | refine loopQ_g ?_ | refine scopeQ_n ?_ | refine scopeQ_e ?_ | refine scopeQ_r ?_ | refine scopeQ_g ?_ | refine sx_scope ?_ | refine SxBI.real ?_ | refine SxBI.imag ?_ | refine SxBI.complex ?_); (repeat (first | refine sx_seq ?_ | refine ops_run rfl (ops_nil ?_) | refine seqQ_n ?_ | refine blockQ_n ?_ | refine sx_block ?_ | refine sx_region rfl ?_ | refine sx_cond rfl ?_ | refine sx_exit ?_ | refine sx_skip ?_ | refine sx_ret ?_ | refine sx_loop ?_ | refine sx_draw ?_ | refine sx_label ?_ | refine seqQ_e ?_ | refine seqQ_r ?_ | refine blockQ_x ?_ | refine blockQ_e rfl ?_ | refine blockQ_r ?_ | refine loopQ_n ?_ | refine loopQ_e ?_ | refine loopQ_r ?_ | refine finQ_n rfl ?_ | refine finQ_r rfl ?_ | refine res_tmp rfl ?_ | refine res_nil ?_ | refine res_agg rfl rfl rfl ?_ | refine res_one rfl rfl rfl ?_ | (refine ops_run rfl (ops_op rfl ?_); conv => whnf) | refine ops_run rfl (ops_guard rfl rfl rfl rfl rfl ?_) | refine any_go rfl rfl (any_done rfl ?_) | (refine any_go rfl rfl (any_st rfl rfl ?_); conv => whnf) | (refine any_go rfl rfl (any_on rfl rfl rfl rfl ?_); conv => whnf) | refine any_go rfl rfl (any_gd rfl ?_) | ((fail_if_success with_reducible refine SxIf.dec (fun _ => ?_) (fun _ => ?_)); refine SxIf.tt ?_) | ((fail_if_success with_reducible refine SxIf.dec (fun _ => ?_) (fun _ => ?_)); refine SxIf.ff ?_) | refine SxRng.i64 (by omega) (by omega) ?_ | refine SxNz.mk (by omega) ?_ | refine SxQ.rem (by omega) (by omega) ?_ | refine SxQ.quo (by omega) (by omega) ?_ | refine SxSh.ofn ?_ | refine SxIf.yes (by omega) ?_ | refine SxIf.no (by omega) ?_ | ((fail_if_success with_reducible refine SxIf.dec (fun _ => ?_) (fun _ => ?_)); first | refine SxIf.eqT (by omega) ?_ | refine SxIf.eqF (by omega) ?_ | refine SxIf.neT (by omega) ?_ | refine SxIf.neF (by omega) ?_) | refine SxLd.blk 0 rfl rfl ?_ | refine SxLd.blk 1 rfl rfl ?_ | refine SxLd.blk 2 rfl rfl ?_ | refine SxLd.blk 3 rfl rfl ?_ | refine SxLd.blk 4 rfl rfl ?_ | refine SxLd.blk 5 rfl rfl ?_ | refine SxLd.blk 6 rfl rfl ?_ | refine SxLdN.blk 0 rfl rfl rfl ?_ | refine SxLdN.blk 1 rfl rfl rfl ?_ | refine SxLdN.blk 2 rfl rfl rfl ?_ | refine SxLdN.blk 3 rfl rfl rfl ?_ | refine SxLdN.blk 4 rfl rfl rfl ?_ | refine SxLdN.blk 5 rfl rfl rfl ?_ | refine SxNth.mk rfl ?_ | refine SxP.mk rfl ?_ | refine SxFill.fast rfl ?_ | refine SxFill.ok rfl rfl ?_ | refine SxP.mk ⟨rfl, by decide⟩ ?_ | refine SxP.mk ⟨by decide, rfl, by decide⟩ ?_ | refine SxSt.blk 0 rfl rfl rfl rfl ?_ | refine SxSt.blk 1 rfl rfl rfl rfl ?_ | refine SxSt.blk 2 rfl rfl rfl rfl ?_ | refine SxSt.blk 3 rfl rfl rfl rfl ?_ | refine SxSt.blk 4 rfl rfl rfl rfl ?_ | refine SxSt.blk 5 rfl rfl rfl rfl ?_ | refine SxStable.mk [] rfl rfl ?_ | refine SxStable.mk [0] rfl rfl ?_ | refine SxStable.mk [1] rfl rfl ?_ | refine SxStable.mk [0, 1] rfl rfl ?_ | refine SxStable.mk [1, 2] rfl rfl ?_ | refine SxStable.mk [2, 3] rfl rfl ?_ | refine SxStable.mk [0, 1, 2] rfl rfl ?_ | refine SxStable.mk [1, 2, 3] rfl rfl ?_ | refine SxStable.mk [2, 3, 4] rfl rfl ?_ | refine SxStable.mk [0, 1, 2, 3] rfl rfl ?_ | refine SxStable.mk [1, 2, 3, 4] rfl rfl ?_ | refine SxStable.mk [2, 3, 4, 5] rfl rfl ?_ | refine SxStable.mk (allI _) (pickH_all _) (nodupB_all _) ?_ | refine sx_goto ?_ | refine meetQ_n ?_ | refine meetQ_e ?_ | refine meetQ_r ?_ | refine meetQ_g ?_ | refine seqQ_g ?_ | refine blockQ_g ?_ | refine loopQ_g ?_ | refine scopeQ_n ?_ | refine scopeQ_e ?_ | refine scopeQ_r ?_ | refine scopeQ_g ?_ | refine sx_scope ?_ | refine SxBI.real ?_ | refine SxBI.imag ?_ | refine SxBI.complex ?_)); exact h.out)) : G := r ⟨h⟩
theorem sx_usej {G' G : Prop} (h : G') (r : SxLeft G' → G := by (intro h; (first | refine sx_seqN rfl ?_ | refine ops_run rfl (ops_nil ?_) | refine seqQ_n ?_ | refine blockQ_n ?_ | refine sx_block ?_ | refine sx_region rfl ?_ | refine sx_cond rfl ?_ | refine sx_exit ?_ | refine sx_skip ?_ | refine sx_ret ?_ | refine sx_loop ?_ | refine sx_draw ?_ | refine sx_label ?_ | refine seqQ_e ?_ | refine seqQ_r ?_ | refine blockQ_x ?_ | refine blockQ_e rfl ?_ | refine blockQ_r ?_ | refine loopQ_n ?_ | refine loopQ_e ?_ | refine loopQ_r ?_ | refine finQ_n rfl ?_ | refine finQ_r rfl ?_ | refine res_tmp rfl ?_ | refine res_nil ?_ | refine res_agg rfl rfl rfl ?_ | refine res_one rfl rfl rfl ?_ | (refine ops_run rfl (ops_op rfl ?_); conv => whnf) | refine ops_run rfl (ops_guard rfl rfl rfl rfl rfl ?_) | refine any_go rfl rfl (any_done rfl ?_) | (refine any_go rfl rfl (any_st rfl rfl ?_); conv => whnf) | (refine any_go rfl rfl (any_on rfl rfl rfl rfl ?_); conv => whnf) | refine any_go rfl rfl (any_gd rfl ?_) | ((fail_if_success with_reducible refine SxIf.dec (fun _ => ?_) (fun _ => ?_)); refine SxIf.tt ?_) | ((fail_if_success with_reducible refine SxIf.dec (fun _ => ?_) (fun _ => ?_)); refine SxIf.ff ?_) | refine SxRng.i64 (by omega) (by omega) ?_ | refine SxNz.mk (by omega) ?_ | refine SxQ.rem (by omega) (by omega) ?_ | refine SxQ.quo (by omega) (by omega) ?_ | refine SxSh.ofn ?_ | refine SxIf.yes (by omega) ?_ | refine SxIf.no (by omega) ?_ | ((fail_if_success with_reducible refine SxIf.dec (fun _ => ?_) (fun _ => ?_)); first | refine SxIf.eqT (by omega) ?_ | refine SxIf.eqF (by omega) ?_ | refine SxIf.neT (by omega) ?_ | refine SxIf.neF (by omega) ?_) | refine SxLd.blk 0 rfl rfl ?_ | refine SxLd.blk 1 rfl rfl ?_ | refine SxLd.blk 2 rfl rfl ?_ | refine SxLd.blk 3 rfl rfl ?_ | refine SxLd.blk 4 rfl rfl ?_ | refine SxLd.blk 5 rfl rfl ?_ | refine SxLd.blk 6 rfl rfl ?_ | refine SxLdN.blk 0 rfl rfl rfl ?_ | refine SxLdN.blk 1 rfl rfl rfl ?_ | refine SxLdN.blk 2 rfl rfl rfl ?_ | refine SxLdN.blk 3 rfl rfl rfl ?_ | refine SxLdN.blk 4 rfl rfl rfl ?_ | refine SxLdN.blk 5 rfl rfl rfl ?_ | refine SxNth.mk rfl ?_ | refine SxP.mk rfl ?_ | refine SxFill.fast rfl ?_ | refine SxFill.ok rfl rfl ?_ | refine SxP.mk ⟨rfl, by decide⟩ ?_ | refine SxP.mk ⟨by decide, rfl, by decide⟩ ?_ | refine SxSt.blk 0 rfl rfl rfl rfl ?_ | refine SxSt.blk 1 rfl rfl rfl rfl ?_ | refine SxSt.blk 2 rfl rfl rfl rfl ?_ | refine SxSt.blk 3 rfl rfl rfl rfl ?_ | refine SxSt.blk 4 rfl rfl rfl rfl ?_ | refine SxSt.blk 5 rfl rfl rfl rfl ?_ | refine SxStable.mk [] rfl rfl ?_ | refine SxStable.mk [0] rfl rfl ?_ | refine SxStable.mk [1] rfl rfl ?_ | refine SxStable.mk [0, 1] rfl rfl ?_ | refine SxStable.mk [1, 2] rfl rfl ?_ | refine SxStable.mk [2, 3] rfl rfl ?_ | refine SxStable.mk [0, 1, 2] rfl rfl ?_ | refine SxStable.mk [1, 2, 3] rfl rfl ?_ | refine SxStable.mk [2, 3, 4] rfl rfl ?_ | refine SxStable.mk [0, 1, 2, 3] rfl rfl ?_ | refine SxStable.mk [1, 2, 3, 4] rfl rfl ?_ | refine SxStable.mk [2, 3, 4, 5] rfl rfl ?_ | refine SxStable.mk (allI _) (pickH_all _) (nodupB_all _) ?_ | refine sx_goto ?_ | refine meetQ_n ?_ | refine meetQ_e ?_ | refine meetQ_r ?_ | refine meetQ_g ?_ | refine seqQ_g ?_ | refine blockQ_g ?_ | refine loopQ_g ?_ | refine scopeQ_n ?_ | refine scopeQ_e ?_ | refine scopeQ_r ?_ | refine scopeQ_g ?_ | refine sx_scope ?_ | refine SxBI.real ?_ | refine SxBI.imag ?_ | refine SxBI.complex ?_); (repeat (first | refine sx_seqN rfl ?_ | refine ops_run rfl (ops_nil ?_) | refine seqQ_n ?_ | refine blockQ_n ?_ | refine sx_block ?_ | refine sx_region rfl ?_ | refine sx_cond rfl ?_ | refine sx_exit ?_ | refine sx_skip ?_ | refine sx_ret ?_ | refine sx_loop ?_ | refine sx_draw ?_ | refine sx_label ?_ | refine seqQ_e ?_ | refine seqQ_r ?_ | refine blockQ_x ?_ | refine blockQ_e rfl ?_ | refine blockQ_r ?_ | refine loopQ_n ?_ | refine loopQ_e ?_ | refine loopQ_r ?_ | refine finQ_n rfl ?_ | refine finQ_r rfl ?_ | refine res_tmp rfl ?_ | refine res_nil ?_ | refine res_agg rfl rfl rfl ?_ | refine res_one rfl rfl rfl ?_ | (refine ops_run rfl (ops_op rfl ?_); conv => whnf) | refine ops_run rfl (ops_guard rfl rfl rfl rfl rfl ?_) | refine any_go rfl rfl (any_done rfl ?_) | (refine any_go rfl rfl (any_st rfl rfl ?_); conv => whnf) | (refine any_go rfl rfl (any_on rfl rfl rfl rfl ?_); conv => whnf) | refine any_go rfl rfl (any_gd rfl ?_) | ((fail_if_success with_reducible refine SxIf.dec (fun _ => ?_) (fun _ => ?_)); refine SxIf.tt ?_) | ((fail_if_success with_reducible refine SxIf.dec (fun _ => ?_) (fun _ => ?_)); refine SxIf.ff ?_) | refine SxRng.i64 (by omega) (by omega) ?_ | refine SxNz.mk (by omega) ?_ | refine SxQ.rem (by omega) (by omega) ?_ | refine SxQ.quo (by omega) (by omega) ?_ | refine SxSh.ofn ?_ | refine SxIf.yes (by omega) ?_ | refine SxIf.no (by omega) ?_ | ((fail_if_success with_reducible refine SxIf.dec (fun _ => ?_) (fun _ => ?_)); first | refine SxIf.eqT (by omega) ?_ | refine SxIf.eqF (by omega) ?_ | refine SxIf.neT (by omega) ?_ | refine SxIf.neF (by omega) ?_) | refine SxLd.blk 0 rfl rfl ?_ | refine SxLd.blk 1 rfl rfl ?_ | refine SxLd.blk 2 rfl rfl ?_ | refine SxLd.blk 3 rfl rfl ?_ | refine SxLd.blk 4 rfl rfl ?_ | refine SxLd.blk 5 rfl rfl ?_ | refine SxLd.blk 6 rfl rfl ?_ | refine SxLdN.blk 0 rfl rfl rfl ?_ | refine SxLdN.blk 1 rfl rfl rfl ?_ | refine SxLdN.blk 2 rfl rfl rfl ?_ | refine SxLdN.blk 3 rfl rfl rfl ?_ | refine SxLdN.blk 4 rfl rfl rfl ?_ | refine SxLdN.blk 5 rfl rfl rfl ?_ | refine SxNth.mk rfl ?_ | refine SxP.mk rfl ?_ | refine SxFill.fast rfl ?_ | refine SxFill.ok rfl rfl ?_ | refine SxP.mk ⟨rfl, by decide⟩ ?_ | refine SxP.mk ⟨by decide, rfl, by decide⟩ ?_ | refine SxSt.blk 0 rfl rfl rfl rfl ?_ | refine SxSt.blk 1 rfl rfl rfl rfl ?_ | refine SxSt.blk 2 rfl rfl rfl rfl ?_ | refine SxSt.blk 3 rfl rfl rfl rfl ?_ | refine SxSt.blk 4 rfl rfl rfl rfl ?_ | refine SxSt.blk 5 rfl rfl rfl rfl ?_ | refine SxStable.mk [] rfl rfl ?_ | refine SxStable.mk [0] rfl rfl ?_ | refine SxStable.mk [1] rfl rfl ?_ | refine SxStable.mk [0, 1] rfl rfl ?_ | refine SxStable.mk [1, 2] rfl rfl ?_ | refine SxStable.mk [2, 3] rfl rfl ?_ | refine SxStable.mk [0, 1, 2] rfl rfl ?_ | refine SxStable.mk [1, 2, 3] rfl rfl ?_ | refine SxStable.mk [2, 3, 4] rfl rfl ?_ | refine SxStable.mk [0, 1, 2, 3] rfl rfl ?_ | refine SxStable.mk [1, 2, 3, 4] rfl rfl ?_ | refine SxStable.mk [2, 3, 4, 5] rfl rfl ?_ | refine SxStable.mk (allI _) (pickH_all _) (nodupB_all _) ?_ | refine sx_goto ?_ | refine meetQ_n ?_ | refine meetQ_e ?_ | refine meetQ_r ?_ | refine meetQ_g ?_ | refine seqQ_g ?_ | refine blockQ_g ?_ | refine loopQ_g ?_ | refine scopeQ_n ?_ | refine scopeQ_e ?_ | refine scopeQ_r ?_ | refine scopeQ_g ?_ | refine sx_scope ?_ | refine SxBI.real ?_ | refine SxBI.imag ?_ | refine SxBI.complex ?_)); exact h.out)) : G := r ⟨h⟩
theorem sN {A : Nat → Prop} (h : ∀ g, A g) : SxNew A := .mk h
end Go.Proofs.YtlmefcepdadfjaaGreat
/- Elements of several cells, one behind the other. No program is named here. -/
namespace Go.Proofs.YtlmefcepdadfjaaGreat
open Go.RowKit

structure Enc (α : Type) where
  enc : α → List Value
  k : Nat
  k0 : 0 < k
  len : ∀ x, (enc x).length = k
  one : ∀ x, allOne (enc x) = true
section
variable {α : Type} (E : Enc α)
def Enc.fl (l : List α) : List Value := l.flatMap E.enc
theorem Enc.fl_nil : E.fl [] = [] := rfl
theorem Enc.fl_cons (x : α) (l : List α) : E.fl (x :: l) = E.enc x ++ E.fl l := rfl
theorem Enc.fl_append (l m : List α) : E.fl (l ++ m) = E.fl l ++ E.fl m := List.flatMap_append ..
theorem Enc.fl_one (x : α) : E.fl [x] = E.enc x := by rw [E.fl_cons, E.fl_nil, List.append_nil]
theorem Enc.fl_len : ∀ l : List α, (E.fl l).length = l.length * E.k
  | [] => by rw [E.fl_nil]; simp
  | x :: l => by rw [E.fl_cons, List.length_append, E.len, Enc.fl_len l, List.length_cons, Nat.succ_mul]; omega
theorem Enc.fl_drop : ∀ (l : List α) (i : Nat), (E.fl l).drop (i * E.k) = E.fl (l.drop i)
  | l, 0 => by simp
  | [], i + 1 => by simp [Enc.fl]
  | x :: l, i + 1 => by
    rw [E.fl_cons, Nat.succ_mul, Nat.add_comm, ← List.drop_drop, show E.k = (E.enc x).length by rw [E.len], List.drop_left, E.len, List.drop_succ_cons]
    exact Enc.fl_drop l i
theorem Enc.fl_take : ∀ (l : List α) (i : Nat), (E.fl l).take (i * E.k) = E.fl (l.take i)
  | l, 0 => by simp [Enc.fl]
  | [], i + 1 => by simp [Enc.fl]
  | x :: l, i + 1 => by
    rw [E.fl_cons, Nat.succ_mul, Nat.add_comm, List.take_add, List.take_left' (E.len x), List.drop_left' (E.len x), List.take_succ_cons, E.fl_cons, Enc.fl_take l i]
theorem Enc.fl_at {l : List α} {i : Nat} {x : α} (h : l[i]? = some x) : ((E.fl l).drop (i * E.k)).take E.k = E.enc x := by
  have hi := (List.getElem?_eq_some_iff.1 h)
  obtain ⟨hl, hx⟩ := hi
  rw [E.fl_drop, List.drop_eq_getElem_cons hl, hx, E.fl_cons, List.take_left' (E.len x)]
theorem Enc.fl_cell {l : List α} {i j : Nat} {x : α} {v : Value} (h : l[i]? = some x) (hj : (E.enc x)[j]? = some v) : (E.fl l)[i * E.k + j]? = some v := by
  have hlt := (List.getElem?_eq_some_iff.1 hj).1
  rw [E.len] at hlt
  rw [← E.fl_at h, List.getElem?_take, if_pos hlt, List.getElem?_drop] at hj
  exact hj
theorem Enc.fl_set {l : List α} {i : Nat} {x : α} (h : i < l.length) : splice (i * E.k) (E.enc x) (E.fl l) = E.fl (l.set i x) := by
  unfold splice
  rw [E.fl_take, E.len, ← Nat.succ_mul, E.fl_drop, List.set_eq_take_append_cons_drop, if_pos h, E.fl_append, E.fl_cons, List.append_assoc]
theorem Enc.allOne_app : ∀ {a b : List Value}, allOne a = true → allOne b = true → allOne (a ++ b) = true
  | [], b, _, h => h
  | x :: a, b, h, k => by
    simp only [allOne, Bool.and_eq_true, List.cons_append] at h ⊢
    exact ⟨h.1, Enc.allOne_app h.2 k⟩
theorem Enc.fl_allOne : ∀ l : List α, allOne (E.fl l) = true
  | [] => rfl
  | x :: l => by rw [E.fl_cons]; exact Enc.allOne_app (E.one x) (Enc.fl_allOne l)
theorem Enc.fl_ne {l : List α} (h : 0 < l.length) : 0 < (E.fl l).length := by rw [E.fl_len]; exact Nat.mul_pos h E.k0
end
theorem allOne_zeros {z : List Value} (h : allOne z = true) : ∀ n, allOne (zerosL z n) = true
  | 0 => rfl
  | n + 1 => Enc.allOne_app h (allOne_zeros h n)
theorem SxSt.elem {α : Type} (E : Enc α) {x : α} {H : Hp} {g e : Nat} {cs : List Value} {A : Hp → Prop} (p : Nat) (hp : H[p]? = some (.blk g e cs)) (hl : cs.length = E.k) (h : A (H.set p (.blk g e (E.enc x)))) : SxP ((E.enc x).toArray.size = E.k) (SxSt H g 0 (E.enc x) A) := by
  have hx := E.len x
  refine SxP.mk (by rw [List.size_toArray]; exact hx) (SxSt.blk p hp (by rw [Nat.ble_eq]; omega) (E.one x) ?_ h)
  unfold splice
  rw [Nat.zero_add, hx, List.take_zero, List.nil_append, List.drop_of_length_le (by omega), List.append_nil]
theorem SxFill.one {z vs : List Value} {k : Nat} {A : List Value → Prop} (hz : z.length = k) (hv : vs.length = k) (h : A vs) : SxFill (fun j => some (j * k, k)) (zerosL z 1) [(0, vs)] A := by
  have hl : (zerosL z 1).length = k := by rw [zerosL_length, hz, Nat.one_mul]
  refine ⟨⟨⟨hv, by rw [hl]; omega⟩, trivial⟩, ?_, h⟩
  show some (splice (0 * k) vs (zerosL z 1)) = some vs
  unfold splice
  rw [Nat.zero_mul, List.take_zero, List.nil_append, Nat.zero_add, hv, List.drop_of_length_le (by omega), List.append_nil]
end Go.Proofs.YtlmefcepdadfjaaGreat
/- A call's own row: shortened, cleared; neighbours that are alike, struck out. No program is named here. -/
namespace Go.Proofs.YtlmefcepdadfjaaGreat
open Go.RowKit

theorem take_snocE {α : Type} {l : List α} {k : Nat} {x : α} (h : l[k]? = some x) : l.take (k + 1) = l.take k ++ [x] := by rw [List.take_add_one, h]; rfl
theorem snoc_ind {α : Type} {P : List α → Prop} (h0 : P []) (h1 : ∀ l x, P l → P (l ++ [x])) (l : List α) : P l := by
  have h : ∀ r : List α, P r.reverse := by
    intro r
    induction r with
    | nil => exact h0
    | cons x r ih => rw [List.reverse_cons]; exact h1 _ _ ih
  have := h l.reverse
  rwa [List.reverse_reverse] at this
section
variable {α : Type} [DecidableEq α]
def dd : List α → List α
  | [] => []
  | [x] => [x]
  | x :: y :: r => if x = y then dd (y :: r) else x :: dd (y :: r)
theorem dd_snoc (a x : α) : ∀ p : List α, dd (p ++ [a] ++ [x]) = if a = x then dd (p ++ [a]) else dd (p ++ [a]) ++ [x]
  | [] => by
    show dd [a, x] = if a = x then dd [a] else dd [a] ++ [x]
    unfold dd
    by_cases h : a = x
    · rw [if_pos h, if_pos h, h]; rfl
    · rw [if_neg h, if_neg h]; rfl
  | [b] => by
    show dd (b :: a :: [x]) = if a = x then dd [b, a] else dd [b, a] ++ [x]
    simp only [dd]
    by_cases h : b = a <;> by_cases h2 : a = x <;> simp [h, h2]
  | b :: c :: p => by
    have ih := dd_snoc a x (c :: p)
    show dd (b :: c :: (p ++ [a] ++ [x])) = if a = x then dd (b :: c :: (p ++ [a])) else dd (b :: c :: (p ++ [a])) ++ [x]
    rw [dd, dd]
    rw [show c :: p ++ [a] ++ [x] = c :: (p ++ [a] ++ [x]) from rfl, show c :: p ++ [a] = c :: (p ++ [a]) from rfl] at ih
    rw [ih]
    by_cases h : b = c <;> by_cases h2 : a = x <;> simp [h, h2]
theorem dd_take {l : List α} {k : Nat} {a x : α} (ha : l[k]? = some a) (hx : l[k + 1]? = some x) : dd (l.take (k + 2)) = if a = x then dd (l.take (k + 1)) else dd (l.take (k + 1)) ++ [x] := by
  have h1 : l.take (k + 1) = l.take k ++ [a] := by rw [List.take_add_one, ha]; rfl
  have h2 : l.take (k + 2) = l.take k ++ [a] ++ [x] := by rw [show k + 2 = k + 1 + 1 from rfl, List.take_add_one, hx, h1]; rfl
  rw [h2, dd_snoc, h1]
theorem dd_len : ∀ l : List α, (dd l).length ≤ l.length
  | [] => Nat.le_refl _
  | [x] => Nat.le_refl _
  | x :: y :: r => by
    have := dd_len (y :: r)
    rw [dd]
    split
    · simp only [List.length_cons] at this ⊢; omega
    · simp only [List.length_cons] at this ⊢; omega
end
section
variable {S : Sx} {W : World} {M : List Nat} {N : Nat} {F : Fr} {H : Hp} {w : World}
theorem setH_get {H : Hp} {p : Nat} {e x : Ent} (h : H[p]? = some x) : (H.set p e)[p]? = some e := by
  have := (List.getElem?_eq_some_iff.1 h).1
  rw [List.getElem?_set_self this]
theorem setH_set (H : Hp) (p : Nat) (a b : Ent) : (H.set p a).set p b = H.set p b := List.set_set ..
theorem setH_same {H : Hp} {p : Nat} {e : Ent} (h : H[p]? = some e) : H.set p e = H := by
  obtain ⟨hl, he⟩ := List.getElem?_eq_some_iff.1 h
  apply List.ext_getElem?
  intro i
  rw [List.getElem?_set]
  by_cases hi : p = i
  · subst hi; rw [if_pos rfl, if_pos hl, h]
  · rw [if_neg hi]
theorem own_cut {w : World} {e k n m cap : Nat} {ao : Option Addr} {cs : List Value} (h : w.ownsRow 0 e k (.slice ao n cap) n cs) (hm : m ≤ n) : w.ownsRow 0 e k (.slice ao m cap) m (cs.take (m * k)) := by
  have hl := h.1
  have hmk : m * k ≤ n * k := Nat.mul_le_mul_right _ hm
  refine ⟨by rw [List.length_take]; omega, ?_⟩
  rcases h.2 with ⟨h1, h2⟩ | ⟨g, c, cur, hv, hb, hh, hnc, hcm, hs, ht⟩
  · subst h2
    obtain rfl : m = 0 := by omega
    exact .inl ⟨h1, rfl⟩
  · simp only [Value.slice.injEq, true_and] at hv
    obtain ⟨rfl, rfl⟩ := hv
    refine .inr ⟨g, cap, cur, rfl, hb, hh, by omega, hcm, hs, ?_⟩
    rw [← ht, List.take_take, Nat.min_eq_left hmk]
theorem grown_refl (w : World) (r : Option Nat) : w.grownBy w r := ⟨rfl, rfl, rfl, Nat.le_refl _, fun _ _ _ => rfl⟩
theorem Sat.cut (hs : Sat W M H w) {p e k n m cap : Nat} {ao : Option Addr} {cs : List Value} (hp : H[p]? = some (.row ao n cap e k cs)) (hm : m ≤ n) : Sat W M (H.set p (.row ao m cap e k (cs.take (m * k)))) w :=
  hs.set hp (grown_refl w _) (own_cut (hs.row p hp) hm) fun _g hg => .inl hg
theorem NewRow.base {w w' : World} {ao : Option Addr} {n cap e k : Nat} {cs : List Value} (h : NewRow w w' ao n cap e k cs) : (0 < n → ∃ g, ao = some ⟨g, 0, none⟩) ∧ n ≤ cap := by
  rcases h.owns.2 with ⟨_, h2⟩ | ⟨g, c, cur, hv, _, _, hnc, _⟩
  · exact ⟨fun h => by omega, by omega⟩
  · simp only [Value.slice.injEq, true_and] at hv
    obtain ⟨rfl, rfl⟩ := hv
    exact ⟨fun _ => ⟨g, rfl⟩, hnc⟩
theorem Rd.sub {w : World} {ao ao' : Option Addr} {cs : List Value} (h : Rd w ao cs) (off m : Nat) (ha : off < cs.length → ao' = ao.map (·.add off)) : Rd w ao' ((cs.drop off).take m) := by
  refine ⟨by rw [List.length_take, List.length_drop]; have := h.1; omega, fun hn => ?_⟩
  rw [List.length_take, List.length_drop] at hn
  obtain ⟨g, o, rfl, hg, hc⟩ := h.2 (by omega)
  rw [Option.map_some, Addr.add_lit] at ha
  refine ⟨g, o + off, ha (by omega), hg, fun j hj => ?_⟩
  rw [List.length_take, List.length_drop] at hj
  rw [List.getElem?_take, if_pos (by omega), List.getElem?_drop, Nat.add_assoc]
  exact hc (off + j) (by omega)
theorem Row.base {w : World} {ao : Option Addr} {n cap e k : Nat} {cs : List Value} (h : w.ownsRow 0 e k (.slice ao n cap) n cs) : (0 < n → ∃ g, ao = some ⟨g, 0, none⟩) ∧ n ≤ cap := by
  rcases h.2 with ⟨_, h2⟩ | ⟨g, c, cur, hv, _, _, hnc, _⟩
  · exact ⟨fun h => by omega, by omega⟩
  · simp only [Value.slice.injEq, true_and] at hv
    obtain ⟨rfl, rfl⟩ := hv
    exact ⟨fun _ => ⟨g, rfl⟩, hnc⟩
theorem SxCode.fact {c : Code} {Q : Exit → Fr → Hp → Prop} {P : Prop} (hP : ∀ w, Sat W M H w → P) (h : P → SxCode S W M N c Q F H) : SxCode S W M N c Q F H :=
  ⟨fun a w ha hs => by cases h (hP w hs) with | mk h => exact h a w ha hs⟩
theorem sx_fact {x y : Code} {Q : Exit → Fr → Hp → Prop} {P : Prop} (hP : ∀ w, Sat W M H w → P) (h : P → sx S W M N (.seq x y) Q F H) : sx S W M N (.seq x y) Q F H := by
  unfold sx
  exact .inr ⟨fun a w ha hs => sx_sound _ _ _ _ (h (hP w hs)) a w ha hs⟩
theorem sx_base {x y : Code} {Q : Exit → Fr → Hp → Prop} (p : Nat) {ao : Option Addr} {n cap e k : Nat} {cs : List Value} (hp : H[p]? = some (.row ao n cap e k cs)) (h : (0 < n → ∃ g, ao = some ⟨g, 0, none⟩) → n ≤ cap → sx S W M N (.seq x y) Q F H) : sx S W M N (.seq x y) Q F H :=
  sx_fact (fun _w hs => Row.base (hs.row p hp)) fun hh => h hh.1 hh.2
theorem sx_weaken {x y : Code} {Q : Exit → Fr → Hp → Prop} {H' : Hp} (hw : Weak H H') (h : sx S W M N (.seq x y) Q F H') : sx S W M N (.seq x y) Q F H := by
  unfold sx
  exact .inr ⟨fun a w ha hs => sx_sound _ _ _ _ h a w ha (hw _ _ _ hs)⟩
theorem SxSem.clear {o : Oper} {A : Value → Hp → Prop} {t e : Nat} {x : Operand} {tys : Array TypeId} {i : TInf} {ao : Option Addr} {n cap : Nat} (hop : o.op = .call ⟨.builtin .clear, #[x], tys⟩) (hty : tys[0]? = some t) (ht : S.P.underlying t = some (.slice e)) (hx : ev F x = some (.slice ao n cap)) (hi : tl S.T e = some i) (hz : i.zero.cells.size = i.size) (hk : 0 < i.size)
    (h : (n = 0 → A (.tuple #[]) H) ∧ (0 < n → ∃ g off, ao = some ⟨g, off, none⟩ ∧ SxSt H g off (zerosL i.zero.cells.toList n) fun H' => A (.tuple #[]) H')) : SxSem S W M N o F H A := by
  refine ⟨fun a w Q ha hs => ?_⟩
  obtain ⟨op, dst, ty, pos, after, guard⟩ := o
  simp only at hop
  subst hop
  rcases Nat.eq_zero_or_pos n with h0 | h0
  · subst h0
    refine op_value (w' := w) ?_ hs (h.1 rfl)
    cases ao <;> simp [execOp, resolve, invoke, builtin, Builtin.clear_, hty, ev_eval ha hx, run_underlying ht]
  · obtain ⟨g, off, rfl, hst⟩ := h.2 h0
    obtain ⟨w', H', hr, hs', hA⟩ := hst.get (P := S.P) hs
    obtain ⟨m, rfl⟩ : ∃ m, n = m + 1 := ⟨n - 1, by omega⟩
    have hzr : (zeroValue e).run S.P w = .ok i.zero w := run_zero hi w
    have hm : (Builtin.zeroCells i.zero.cells (m + 1)).toList = zerosL i.zero.cells.toList (m + 1) := by
      have := made_zeros i.zero.cells i.size (m + 1) hz hk
      rw [← hz] at this
      unfold Builtin.zeroCells
      rw [this]
    refine op_value (w' := w') ?_ hs' hA
    simp [execOp, resolve, invoke, builtin, Builtin.clear_, hty, ev_eval ha hx, run_underlying ht, hzr, hm, hr]
end
end Go.Proofs.YtlmefcepdadfjaaGreat
/- Two rows that one call has made, to be read. -/
namespace Go.Proofs.YtlmefcepdadfjaaGreat
open Go.RowKit

section
variable {W : World} {M : List Nat} {H : Hp} {w w' : World}
theorem NewRow.above {ao : Option Addr} {n cap e k : Nat} {cs : List Value} (h : NewRow w w' ao n cap e k cs) {g : Nat} (hg : (Ent.rd ao cs).uses g) : w.heap.size ≤ g := by
  refine (World.ownsRow.lt h.owns g ?_).1
  cases ao with
  | none => have := hg.2; cases this
  | some a => simpa [Ent.uses, Value.ownBlock] using hg.2
theorem Sat.addRd (hs : Sat W M H w) {ao : Option Addr} {n cap e k : Nat} {cs : List Value} (h : NewRow w w' ao n cap e k cs) (hm : cs.length ≤ maxLen) : Sat W M (.rd ao cs :: H) w' :=
  hs.cons (Below.toGrown h.below) (e := .rd ao cs) ((hs.addNew h).rowRd 0 rfl hm) fun _ hg => h.above hg
end
end Go.Proofs.YtlmefcepdadfjaaGreat
/- More words of the walk: answers of a kind, parts of a literal one by one, where a row lies. No program is named here. -/
namespace Go.Proofs.YtlmefcepdadfjaaGreat
open Go.RowKit

section
variable {S : Sx} {W : World} {M : List Nat} {f : Nat} {args : Array Value} {H : Hp} {A : Value → Hp → Prop}
theorem SxCall.quietP {P : Value → Prop} (hc : ∀ w, Sat W M H w → Calls S.P f args w fun e w' => ∃ v, e = .returned v ∧ P v ∧ Below w.heap.size w w') (h : ∀ v, P v → A v H) : SxCall S W M f args H A :=
  SxCall.at hc fun _w _e _w' hs ⟨v, h1, h2, h3⟩ => ⟨v, H, h1, hs.below h3, h v h2⟩
theorem splice_app {vs ws us : List Value} {n o : Nat} (h : vs.length = n) : splice (n + o) us (vs ++ ws) = vs ++ splice o us ws := by
  unfold splice
  subst h
  rw [List.take_append, List.take_of_length_le (by omega), List.drop_append, List.drop_of_length_le (by omega : vs.length ≤ vs.length + o + us.length)]
  simp [Nat.add_assoc]
theorem SxFill.first {place : Nat → Option (Nat × Nat)} {cs vs : List Value} {n : Nat} {r : List (Nat × List Value)} {A : List Value → Prop} (hp : place 0 = some (0, n)) (hv : vs.length = n) (hn : Nat.ble n cs.length = true) (h : SxFill place (vs ++ cs.drop n) r A) : SxFill place cs ((0, vs) :: r) A := by
  have e : splice 0 vs cs = vs ++ cs.drop n := by unfold splice; subst hv; simp
  cases h with | mk h1 hc h2 => 
    refine ⟨?_, ?_, h2⟩
    · unfold fillP
      rw [hp]
      dsimp only
      rw [e]
      exact ⟨⟨hv, by have := Nat.le_of_ble_eq_true hn; omega⟩, h1⟩
    · unfold fillC
      rw [hp]
      dsimp only
      rw [e]
      exact hc
theorem fill_tail {place place' : Nat → Option (Nat × Nat)} {vs : List Value} {n : Nat} (hv : vs.length = n) : ∀ {r : List (Nat × List Value)} {ws ws' : List Value}, (∀ x ∈ r, ∃ o s, place' x.1 = some (o, s) ∧ place x.1 = some (n + o, s)) → fillP place' ws r → fillC place' ws r = some ws' → fillP place (vs ++ ws) r ∧ fillC place (vs ++ ws) r = some (vs ++ ws')
  | [], ws, ws', _, _, hc => by
    simp only [fillC, Option.some.injEq] at hc
    subst hc
    exact ⟨trivial, rfl⟩
  | (i, us) :: r, ws, ws', hpl, hp, hc => by
    obtain ⟨o, s, h1, h2⟩ := hpl (i, us) (by simp)
    dsimp only at h1 h2
    unfold fillP at hp
    unfold fillC at hc
    rw [h1] at hp hc
    dsimp only at hp hc
    have ih := fill_tail hv (fun x hx => hpl x (List.mem_cons_of_mem _ hx)) hp.2 hc
    unfold fillP fillC
    rw [h2]
    dsimp only
    rw [splice_app hv]
    refine ⟨⟨⟨hp.1.1, ?_⟩, ih.1⟩, ih.2⟩
    have := hp.1.2
    rw [List.length_append]; omega
theorem SxFill.tail {place : Nat → Option (Nat × Nat)} (place' : Nat → Option (Nat × Nat)) {vs ws : List Value} {n : Nat} {r : List (Nat × List Value)} {A : List Value → Prop} (hv : vs.length = n) (hpl : ∀ x ∈ r, ∃ o s, place' x.1 = some (o, s) ∧ place x.1 = some (n + o, s)) (h : SxFill place' ws r (fun cs => A (vs ++ cs))) : SxFill place (vs ++ ws) r A := by
  cases h with | mk h1 hc h2 =>
    have := fill_tail hv hpl h1 hc
    exact ⟨this.1, this.2, h2⟩
theorem SxCall.newRd {v : Option Addr → Nat → Value} {n e k : Nat} {cs : List Value} (hm : cs.length ≤ maxLen)
    (hc : ∀ w, Sat W M H w → Calls S.P f args w fun en w' => ∃ ao cap, en = .returned (v ao cap) ∧ NewRow w w' ao n cap e k cs) (h : ∀ ao cap, A (v ao cap) (.rd ao cs :: H)) : SxCall S W M f args H A :=
  ⟨fun w hs => (hc w hs).mono fun _ _ he => by
    obtain ⟨ao, cap, h1, h2⟩ := he
    exact ⟨_, _, h1, hs.addRd h2 hm, h ao cap⟩⟩
end
end Go.Proofs.YtlmefcepdadfjaaGreat

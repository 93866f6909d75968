/- The laws of package sha that ask nothing of the input: nobody's hash; any text. -/
import Derived.Test.YtoacohlbelfkcaaZShaR
namespace Go.Proofs.Ytoacohlbelfkcaa
open Go.RowKit

theorem fp_equalIn (w : World) (st : Nat → Nat) : (Op.equalIn 10000 24 (.agg (tab 32 (sumV st)).toArray) (.agg (tab 32 (sumV st)).toArray)).run Try.prog w = .ok true w := by
  obtain ⟨i, hi⟩ : ∃ i, Try.prog.info? 5 = some i := ⟨_, rfl⟩
  have h1 := run_equalIn_array (P := Try.prog) (w := w) 9999 (tab 32 (sumV st)).toArray (tab 32 (sumV st)).toArray Try.underlying24 hi
  rw [h1]
  exact run_eqItems_same w 9998 32 5 .u8 _ Try.underlying5 (by kernel_rfl) (List.range 32) (fun i hi => by simpa using hi)
set_option maxHeartbeats 4000000 in
set_option maxRecDepth 100000 in
theorem ShaNobody_law (w : World) (s : ByteArray) (hs : s.size ≤ maxLen) :
    Calls Try.prog 7 #[.string s] w fun e w' => e = .returned (.bool true) ∧ Below w.heap.size w w' := by
  go_enter Try.func7, Try.ntmps7
  go_wp2_with fail
  refine (Write_nil s hs _).mono ?_
  rintro e w1 ⟨rfl, hb1⟩
  go_wp2_with fail
  refine (Len_nil _).mono ?_
  rintro e w2 ⟨rfl, hb2⟩
  have hb12 := kp_step hb1 hb2
  clear hb1 hb2
  go_wp2_with fail
  refine (Sum_nil _).mono ?_
  rintro e w3 ⟨rfl, hb3⟩
  have hb13 := kp_step hb12 hb3
  clear hb12 hb3
  have heq : ∀ W : World, (Op.equalIn 10000 24 (.agg (tab 32 (sumV fun _ => 0)).toArray) (.agg #[.int .u8 0, .int .u8 0, .int .u8 0, .int .u8 0, .int .u8 0, .int .u8 0, .int .u8 0, .int .u8 0, .int .u8 0, .int .u8 0, .int .u8 0, .int .u8 0, .int .u8 0, .int .u8 0, .int .u8 0, .int .u8 0, .int .u8 0, .int .u8 0, .int .u8 0, .int .u8 0, .int .u8 0, .int .u8 0, .int .u8 0, .int .u8 0, .int .u8 0, .int .u8 0, .int .u8 0, .int .u8 0, .int .u8 0, .int .u8 0, .int .u8 0, .int .u8 0])).run Try.prog W = .ok true W := fun W => by
    have h := fp_equalIn W (fun _ => 0)
    rw [show (tab 32 (sumV fun _ => 0)).toArray = #[.int .u8 0, .int .u8 0, .int .u8 0, .int .u8 0, .int .u8 0, .int .u8 0, .int .u8 0, .int .u8 0, .int .u8 0, .int .u8 0, .int .u8 0, .int .u8 0, .int .u8 0, .int .u8 0, .int .u8 0, .int .u8 0, .int .u8 0, .int .u8 0, .int .u8 0, .int .u8 0, .int .u8 0, .int .u8 0, .int .u8 0, .int .u8 0, .int .u8 0, .int .u8 0, .int .u8 0, .int .u8 0, .int .u8 0, .int .u8 0, .int .u8 0, .int .u8 0] from by rfl] at h ⊢
    exact h
  go_wp2_with fail
  refine (awake_any _).mono ?_
  rintro e w4 ⟨rfl, hb4⟩
  have hb14 := kp_step hb13 hb4
  clear hb13 hb4
  go_wp2_with fail
  exact bodyPost_ret (results_tmp rfl _ _ _) rfl ⟨rfl, hb14⟩
end Go.Proofs.Ytoacohlbelfkcaa

/- What a list has. -/
import Derived.Test.YtblgkpfnjlobjaaGraph
namespace Go.Proofs.Ytblgkpfnjlobjaa
open Go Go.V

theorem hasInt_ok {w : World} {v : Value} {xs : List Int} (hx : Ints w v xs) (hl : xs.length < 9223372036854775807) (y : Int) :
    Calls Try.prog N.laws_hasInt #[v, .int .i64 y] w (Ret fun r w' => Ext w w' ∧ r = .bool (decide (y ∈ xs))) := by
  obtain ⟨a, c, rfl, _, hx⟩ := hx.out
  refine ret_k fun R hR => c_laws_hasInt _ _ _ _ ?_
  refine loopV (fun s w' => ∃ k : Nat, s = [.int .i64 k] ∧ k ≤ xs.length ∧ w' = w ∧ y ∉ xs.take k) (upTo xs.length 0) ⟨0, rfl, by omega, rfl, by simp⟩ ?_
  rintro s z w' K ⟨k, rfl, hk, rfl, hn⟩ hK
  simp only [go_sem]
  refine ⟨fun h => ?_, fun h => ?_⟩
  · have hk : k < xs.length := by omega
    refine idxLoad hx rfl hk ?_
    simp only [go_sem]
    refine ⟨fun h => hR _ _ ⟨Ext.refl _, ?_⟩, fun h => ?_⟩
    · simp [← h]
    · refine bin_inc (by omega) (hK _ _ ⟨k + 1, rfl, by omega, rfl, ?_⟩ (by simp [upTo, nthV, iOf]; omega))
      rw [take_snoc hk, List.mem_append, List.mem_singleton]
      rintro (h' | h')
      · exact hn h'
      · exact h h'.symm
  · rw [List.take_of_length_le (by omega)] at hn
    exact hR _ _ ⟨Ext.refl _, by simp [hn]⟩
end Go.Proofs.Ytblgkpfnjlobjaa

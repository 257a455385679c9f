/- MeaningAlgebra returns true for any three terms and every header, and all four read behind the call as before it. Conditions: none. -/
import Derived.Test.YtpjmdjddgnaddaaRow
import Derived.Test.YtpjmdjddgnaddaaLAlg
import Derived.Carry
namespace Go.Proofs.Ytpjmdjddgnaddaa
open Go.ChangeShapes Go.WideShapes Go.ChangeAt Go.RowKit

set_option maxRecDepth 100000 in
theorem algebra_lifted (os : Os) (started : os.Started) (H : Type) (enc : TypeId × Value → H) :
    ReturnsInHanded {} Try.checked os 4 .any (Rows.meaningAlgebraSpec.pre6 enc Try.prog Try.f4 Rows.meaningAlgebraRow.domain false) (Rows.meaningAlgebraSpec.post enc Try.prog Try.f4 false true false false) := by
  refine returnsInHanded_of_change (C := Try.checked) ownL started (by kernel_rfl) Try.func4
    (ChangeSpec.witness6 (enc := enc) (C := Try.checked) false ⟨#[], #[zT, zT, zT, zH], []⟩ 8 (by kernel_rfl) (by kernel_rfl) (by kernel_rfl) (by kernel_rfl)) ?_
  intro W base args ds gs before hval0 hW hcnd _
  have hval : ∀ (j : Nat) t v, Try.f4.params[j]? = some t → args[j]? = some v → Value.okWide Try.prog W .any base t v := hval0
  have hW' := hW
  obtain ⟨p, q, hA0, hV, rfl, hfz, hnd⟩ := hW
  have hA : DataW.TrodAll enc Try.prog W 0 (fun _ => true) true Try.f4.params.toList args.toList ds p := hA0
  rw [Try.params4] at hA hval
  obtain ⟨v0, v1, v2, v3, d0, d1, d2, d3, p0, p1, p2, p3, rfl, rfl, rfl, h0, h1, h2, h3⟩ := trodAll_four hA
  obtain ⟨rfl, rfl⟩ := trodVars_none hV
  obtain ⟨t, ht⟩ := term_val (hval 0 26 v0 rfl rfl) h0
  obtain ⟨u, hu⟩ := term_val (hval 1 26 v1 rfl rfl) h1
  obtain ⟨s, hs⟩ := term_val (hval 2 26 v2 rfl rfl) h2
  obtain ⟨x, rfl⟩ := hdr_val (hval 3 28 v3 rfl rfl) h3
  have hlt : ∀ y ∈ p0 ++ (p1 ++ (p2 ++ p3)), y.block < W.heap.size := fun y hy => hW'.lt y (by simpa using hy)
  simp only [List.append_nil, List.append_assoc] at hW'
  refine (lawAlg_any t u s v0 v1 v2 x W ht hu hs).mono fun e W' ⟨he, hw⟩ => ?_
  subst he
  have hb : Below W.heap.size W W' := hw
  exact ⟨_, rfl, post_below (pa := p0 ++ (p1 ++ (p2 ++ p3))) (pv := []) hW' (fun _ _ _ => trodAll_mk1 (shut_bool Try.underlying4 true))
    (fun sp hsp => trodAll_mk4 (stays_T sp h0 hb (fun y hy => hlt y (List.mem_append_left _ hy)) (fun y hy => hsp y (List.mem_append_left _ hy))) (stays_T sp h1 hb (fun y hy => hlt y (List.mem_append_right _ (List.mem_append_left _ hy))) (fun y hy => hsp y (List.mem_append_right _ (List.mem_append_left _ hy)))) (stays_T sp h2 hb (fun y hy => hlt y (List.mem_append_right _ (List.mem_append_right _ (List.mem_append_left _ hy)))) (fun y hy => hsp y (List.mem_append_right _ (List.mem_append_right _ (List.mem_append_left _ hy))))) (stays_H sp h3 hb (fun y hy => hlt y (List.mem_append_right _ (List.mem_append_right _ (List.mem_append_right _ hy)))) (fun y hy => hsp y (List.mem_append_right _ (List.mem_append_right _ (List.mem_append_right _ hy))))))
    (fun _ _ => rfl) (by simp) hb (ok_one (by kernel_rfl) rfl (okWide_bool_mk Try.underlying4 true))⟩

theorem MeaningAlgebra_holds : Rows.MeaningAlgebraSaid :=
  OpenClaim.holds_of_wide 4 Try.f4 rfl rfl rfl rfl rfl rfl rfl ⟨rfl, rfl, rfl, rfl, rfl⟩ rfl rfl rfl rfl rfl (by kernel_rfl) Try.func4 (by kernel_rfl)
    (of_decide_eq_true (by kernel_rfl)) (by unfold Func.isWrapper; first | (rw [if_pos (by decide +kernel)]; kernel_rfl) | (rw [if_neg (by decide +kernel)]; exact ⟨rfl, rfl⟩))
    (fun os started H enc _ => algebra_lifted os started H enc)
#print axioms MeaningAlgebra_holds
end Go.Proofs.Ytpjmdjddgnaddaa

/- JudgeUnion returns true for any two policies, wires and header, and all four read behind the call as before it. Conditions: none. -/
import Derived.Test.YtddeelepaiklgaaRow
import Derived.Test.YtddeelepaiklgaaJUnion
import Derived.Test.YtddeelepaiklgaaJOpen
import Derived.Carry
namespace Go.Proofs.Ytddeelepaiklgaa
open Go.ChangeShapes Go.WideShapes Go.ChangeAt Go.RowKit

set_option maxRecDepth 100000 in
theorem union_lifted (os : Os) (started : os.Started) (H : Type) (enc : TypeId × Value → H) :
    ReturnsInHanded {} Try.checked os 8 .any (Rows.judgeUnionSpec.pre6 enc Try.prog Try.f8 Rows.judgeUnionRow.domain false) (Rows.judgeUnionSpec.post enc Try.prog Try.f8 false true false false) := by
  refine returnsInHanded_of_change (C := Try.checked) ownL started (by kernel_rfl) Try.func8
    (ChangeSpec.witness6 (enc := enc) (C := Try.checked) false ⟨#[], #[zP, zP, .slice none 0 0, zH], []⟩ 8 (by kernel_rfl) (by kernel_rfl) (by kernel_rfl) (by kernel_rfl)) ?_
  intro W base args ds gs before hval0 hW hcnd _
  have hval : ∀ (j : Nat) t v, Try.f8.params[j]? = some t → args[j]? = some v → Value.okWide Try.prog W .any base t v := hval0
  have hW' := hW
  obtain ⟨p, q, hA0, hV, rfl, hfz, hnd⟩ := hW
  have hA : DataW.TrodAll enc Try.prog W 0 (fun _ => true) true Try.f8.params.toList args.toList ds p := hA0
  rw [Try.params8] at hA hval
  obtain ⟨v0, v1, v2, v3, d0, d1, d2, d3, p0, p1, p2, p3, rfl, rfl, rfl, h0, h1, h2, h3⟩ := trodAll_four hA
  obtain ⟨rfl, rfl⟩ := trodVars_none hV
  obtain ⟨t, q1, ht⟩ := policy_val (hval 0 34 v0 rfl rfl) h0
  obtain ⟨u, q2, hu⟩ := policy_val (hval 1 34 v1 rfl rfl) h1
  obtain ⟨s, hs⟩ := wires_val (hval 2 41 v2 rfl rfl) h2
  obtain ⟨x, rfl⟩ := hdr_val (hval 3 24 v3 rfl rfl) h3
  have hlt : ∀ y ∈ p0 ++ (p1 ++ (p2 ++ p3)), y.block < W.heap.size := fun y hy => hW'.lt y (by simpa using hy)
  simp only [List.append_nil, List.append_assoc] at hW'
  refine (lawUnion_any t u q1 q2 s x v0 v1 v2 W ht hu hs).mono fun e W' ⟨he, hw⟩ => ?_
  subst he
  have hb : Below W.heap.size W W' := hw
  exact ⟨_, rfl, post_below (pa := p0 ++ (p1 ++ (p2 ++ p3))) (pv := []) hW' (fun _ _ _ => trodAll_mk1 (shut_bool Try.underlying4 true))
    (fun sp hsp => trodAll_mk4 (stays_P sp h0 hb (fun y hy => hlt y (List.mem_append_left _ hy)) (fun y hy => hsp y (List.mem_append_left _ hy))) (stays_P sp h1 hb (fun y hy => hlt y (List.mem_append_right _ (List.mem_append_left _ hy))) (fun y hy => hsp y (List.mem_append_right _ (List.mem_append_left _ hy)))) (stays_W sp h2 hb (fun y hy => hlt y (List.mem_append_right _ (List.mem_append_right _ (List.mem_append_left _ hy)))) (fun y hy => hsp y (List.mem_append_right _ (List.mem_append_right _ (List.mem_append_left _ hy))))) (stays_H sp h3 hb (fun y hy => hlt y (List.mem_append_right _ (List.mem_append_right _ (List.mem_append_right _ hy)))) (fun y hy => hsp y (List.mem_append_right _ (List.mem_append_right _ (List.mem_append_right _ hy))))))
    (fun _ _ => rfl) (by simp) hb (ok_one (by kernel_rfl) rfl (okWide_bool_mk Try.underlying4 true))⟩

theorem JudgeUnion_holds : Rows.JudgeUnionSaid :=
  OpenClaim.holds_of_wide 8 Try.f8 rfl rfl rfl rfl rfl rfl rfl ⟨rfl, rfl, rfl, rfl, rfl⟩ rfl rfl rfl rfl rfl (by kernel_rfl) Try.func8 (by kernel_rfl)
    (of_decide_eq_true (by kernel_rfl)) (by unfold Func.isWrapper; first | (rw [if_pos (by decide +kernel)]; kernel_rfl) | (rw [if_neg (by decide +kernel)]; exact ⟨rfl, rfl⟩))
    (fun os started H enc _ => union_lifted os started H enc)
#print axioms JudgeUnion_holds
end Go.Proofs.Ytddeelepaiklgaa

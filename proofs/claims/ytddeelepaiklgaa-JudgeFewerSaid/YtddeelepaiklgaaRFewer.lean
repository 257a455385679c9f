/- JudgeFewer returns true for every input, and each argument reads behind the call as before it. Conditions: none. -/
import Derived.Test.YtddeelepaiklgaaRow
import Derived.Test.YtddeelepaiklgaaJFew
import Derived.Test.YtddeelepaiklgaaJOpenH
import Derived.Carry
namespace Go.Proofs.Ytddeelepaiklgaa
open Go.ChangeShapes Go.WideShapes Go.ChangeAt Go.RowKit

set_option maxRecDepth 100000 in
theorem judgeFewer_lifted (os : Os) (started : os.Started) (H : Type) (enc : TypeId × Value → H) :
    ReturnsInHanded {} Try.checked os 6 .any (Rows.judgeFewerSpec.pre6 enc Try.prog Try.f6 Rows.judgeFewerRow.domain false) (Rows.judgeFewerSpec.post enc Try.prog Try.f6 false true false false) := by
  refine returnsInHanded_of_change (C := Try.checked) ownL started (by kernel_rfl) Try.func6
    (ChangeSpec.witness6 (enc := enc) (C := Try.checked) false ⟨#[], #[zHop, zP, .int .i64 0], []⟩ 8 (by kernel_rfl) (by kernel_rfl) (by kernel_rfl) (by kernel_rfl)) ?_
  intro W base args ds gs before hval0 hW hcnd _
  have hval : ∀ (j : Nat) t v, Try.f6.params[j]? = some t → args[j]? = some v → Value.okWide Try.prog W .any base t v := hval0
  have hW' := hW
  obtain ⟨p, q, hA0, hV, rfl, hfz, hnd⟩ := hW
  have hA : DataW.TrodAll enc Try.prog W 0 (fun _ => true) true Try.f6.params.toList args.toList ds p := hA0
  rw [Try.params6] at hA hval
  obtain ⟨v0, v1, v2, d0, d1, d2, p0, p1, p2, rfl, rfl, rfl, h0, h1, h2⟩ := trodAll_three hA
  obtain ⟨rfl, rfl⟩ := trodVars_none hV
  obtain ⟨k0, w0⟩ := hop_val (hval 0 27 v0 rfl rfl) h0
  obtain ⟨t1, q1, w1⟩ := policy_val (hval 1 34 v1 rfl rfl) h1
  obtain ⟨n2, rfl, -, -⟩ := int_val (hval 2 3 v2 rfl rfl)
  have hlt : ∀ y ∈ p0 ++ (p1 ++ p2), y.block < W.heap.size := fun y hy => hW'.lt y (by simpa using hy)
  simp only [List.append_nil, List.append_assoc] at hW'
  refine (lawFewer_any k0 t1 q1 n2 v0 v1 W w0 w1).mono fun e W' ⟨he, hw⟩ => ?_
  subst he
  have hb : Below W.heap.size W W' := hw
  exact ⟨_, rfl, post_below (pa := p0 ++ (p1 ++ p2)) (pv := []) hW' (fun _ _ _ => trodAll_mk1 (shut_bool Try.underlying4 true))
    (fun sp hsp => trodAll_mk3 (stays_Hop sp h0 hb (fun y hy => hlt y (List.mem_append_left _ hy)) (fun y hy => hsp y (List.mem_append_left _ hy))) (stays_P sp h1 hb (fun y hy => hlt y (List.mem_append_right _ (List.mem_append_left _ hy))) (fun y hy => hsp y (List.mem_append_right _ (List.mem_append_left _ hy)))) (stays_Int sp h2 hb (fun y hy => hlt y (List.mem_append_right _ (List.mem_append_right _ hy))) (fun y hy => hsp y (List.mem_append_right _ (List.mem_append_right _ hy)))))
    (fun _ _ => rfl) (by simp) hb (ok_one (by kernel_rfl) rfl (okWide_bool_mk Try.underlying4 true))⟩

theorem JudgeFewer_holds : Rows.JudgeFewerSaid :=
  OpenClaim.holds_of_wide 6 Try.f6 rfl rfl rfl rfl rfl rfl rfl ⟨rfl, rfl, rfl, rfl, rfl⟩ rfl rfl rfl rfl rfl (by kernel_rfl) Try.func6 (by kernel_rfl)
    (of_decide_eq_true (by kernel_rfl)) (by unfold Func.isWrapper; first | (rw [if_pos (by decide +kernel)]; kernel_rfl) | (rw [if_neg (by decide +kernel)]; exact ⟨rfl, rfl⟩))
    (fun os started H enc _ => judgeFewer_lifted os started H enc)
#print axioms JudgeFewer_holds
end Go.Proofs.Ytddeelepaiklgaa

/- NodesNil returns true for every input, and each argument reads behind the call as before it. Conditions: the tables as laid. -/
import Derived.Test.YtehdddilcakmlaaDoorNOpen
import Derived.Test.YtehdddilcakmlaaDoorNLaid
import Derived.Test.YtehdddilcakmlaaDoorNLNil
import Derived.Carry
namespace Go.Proofs.YtehdddilcakmlaaDoor
open Go.ChangeShapes Go.WideShapes Go.ChangeAt Go.RowKit

set_option maxRecDepth 100000 in
theorem nodesNil_lifted (os : Os) (started : os.Started) (H : Type) (enc : TypeId × Value → H) :
    ReturnsInHanded {} Tryd.checked os 4 .any (fun w args => (Rows.nodesNilSpec.pre enc Tryd.prog Tryd.f4 Rows.nodesNilRow.domain false w args ∧ laidMet Tryd.prog laid20 w) ∧ sizedMet enc Tryd.prog Tryd.f4 (OpenSpec.ofChange Rows.nodesNilSpec) false w args) (Rows.nodesNilSpec.post enc Tryd.prog Tryd.f4 false true false false) := by
  refine returnsInHanded_of_change_and (C := Tryd.checked) (X := fun w _ => laidMet Tryd.prog laid20 w) (fun _ _ _ hh h => h.of_heap hh) ownL started (by kernel_rfl) Tryd.func4
    (ChangeSpec.witness_at (enc := enc) (C := Tryd.checked) (os := os) (X := fun w _ => laidMet Tryd.prog laid20 w) false (laidWorld os) #[.slice none 0 0, .int .i8 0, .int .u64 0, .int .i64 0] 8 rfl (by kernel_rfl) (by kernel_rfl) (by kernel_rfl) (by kernel_rfl) (by kernel_rfl) (laid_met os _)) ?_
  intro W base args ds gs before hval0 hW hcnd _ hL _
  have hval : ∀ (j : Nat) t v, Tryd.f4.params[j]? = some t → args[j]? = some v → Value.okWide Tryd.prog W .any base t v := hval0
  have hW' := hW
  obtain ⟨p, q, hA0, hV, rfl, hfz, hnd⟩ := hW
  have hA : DataW.TrodAll enc Tryd.prog W 0 (fun _ => true) true Tryd.f4.params.toList args.toList ds p := hA0
  rw [Tryd.params4] at hA hval
  obtain ⟨v0, v1, v2, v3, d0, d1, d2, d3, p0, p1, p2, p3, rfl, rfl, rfl, h0, h1, h2, h3⟩ := trodAll_four hA
  obtain ⟨rfl, rfl⟩ := trodVars_none hV
  obtain ⟨l0, w0⟩ := rows_val (hval 0 31 v0 rfl rfl) h0
  obtain ⟨n1, rfl, w1⟩ := int8_val (hval 1 32 v1 rfl rfl)
  obtain ⟨n2, rfl, w2⟩ := uint64_val (hval 2 33 v2 rfl rfl)
  obtain ⟨n3, rfl, w3⟩ := int_val (hval 3 3 v3 rfl rfl)
  have hlt : ∀ y ∈ p0 ++ (p1 ++ (p2 ++ p3)), y.block < W.heap.size := fun y hy => hW'.lt y (by simpa using hy)
  simp only [List.append_nil, List.append_assoc] at hW'
  refine (lawNil_row l0 n1 n2 n3 v0 W w0 w1 w2 w3 (tb_of_laid hL)).mono fun e W' ⟨he, hw⟩ => ?_
  subst he
  have hb : Below W.heap.size W W' := hw
  exact ⟨_, rfl, post_below (pa := p0 ++ (p1 ++ (p2 ++ p3))) (pv := []) hW' (fun _ _ _ => trodAll_mk1 (shut_bool Tryd.underlying4 true))
    (fun sp hsp => trodAll_mk4 (stays_Rows sp h0 hb (fun y hy => hlt y (List.mem_append_left _ hy)) (fun y hy => hsp y (List.mem_append_left _ hy))) (stays_I8 sp h1 hb (fun y hy => hlt y (List.mem_append_right _ (List.mem_append_left _ hy))) (fun y hy => hsp y (List.mem_append_right _ (List.mem_append_left _ hy)))) (stays_U64 sp h2 hb (fun y hy => hlt y (List.mem_append_right _ (List.mem_append_right _ (List.mem_append_left _ hy)))) (fun y hy => hsp y (List.mem_append_right _ (List.mem_append_right _ (List.mem_append_left _ hy))))) (stays_Int sp h3 hb (fun y hy => hlt y (List.mem_append_right _ (List.mem_append_right _ (List.mem_append_right _ hy)))) (fun y hy => hsp y (List.mem_append_right _ (List.mem_append_right _ (List.mem_append_right _ hy))))))
    (fun _ _ => rfl) (by simp) hb (ok_one (by kernel_rfl) rfl (okWide_bool_mk Tryd.underlying4 true))⟩

theorem NodesNil_holds : Rows.NodesNilSaid :=
  OpenClaim.holds_of_wide 4 Tryd.f4 rfl rfl rfl rfl rfl rfl rfl ⟨rfl, rfl, rfl, rfl, rfl⟩ rfl rfl rfl rfl rfl (by kernel_rfl) Tryd.func4 (by kernel_rfl)
    (of_decide_eq_true (by kernel_rfl)) (by unfold Func.isWrapper; first | (rw [if_pos (by decide +kernel)]; kernel_rfl) | (rw [if_neg (by decide +kernel)]; exact ⟨rfl, rfl⟩))
    (fun os started H enc _ => nodesNil_lifted os started H enc)
#print axioms NodesNil_holds
end Go.Proofs.YtehdddilcakmlaaDoor

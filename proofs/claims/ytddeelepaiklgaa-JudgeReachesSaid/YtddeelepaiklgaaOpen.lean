/- The arguments: a term and a header out of their data. -/
import Derived.Test.YtddeelepaiklgaaBase
import Derived.Test.YtddeelepaiklgaaRows
import Derived.ProofKit
import Derived.Deep.Slices
import Derived.OpenShut
import Derived.Deep.MidRow
namespace Go.Proofs.Ytddeelepaiklgaa
open Go.ChangeShapes Go.WideShapes Go.ChangeAt Go.RowKit Go.Deep

section
variable {H : Type} {enc : TypeId × Value → H} {w : World} {spare : Nat → Bool} {held : Bool}

theorem cells_one {l : List Value} {i : Nat} (h : i < l.length) : (l.drop i).take 1 = [l[i]] := by
  rw [List.drop_eq_getElem_cons h]; rfl

theorem cell_nospot {a : Addr} {v : Value} (h : w.cell? a = some v) : a = ⟨a.block, a.off, none⟩ := by
  obtain ⟨b, o, sp⟩ := a
  cases sp with
  | none => rfl
  | some s =>
    exfalso
    simp only [World.cell?] at h
    split at h
    · simp at h
    · cases h
theorem maxLen_eq : maxLen = 9223372036854775807 := by decide

set_option maxRecDepth 4000 in
theorem open_term : ∀ (fuel : Nat) (cs : List Value) (d : DataW H) (ps : List MemPlace), DataW.trod enc Try.prog w 0 spare held fuel 31 cs = some (d, ps) → ∃ t : Tm, t.Val w (.agg cs.toArray) := by
  intro fuel
  induction fuel using Nat.strongRecOn with | _ fuel ih
  intro cs d ps h
  obtain ⟨xs, n, rfl, -, hlen, hxl, hf⟩ := DataW.trod_struct Try.underlying31 h
  rw [show Try.prog.cellsOf 31 = 4 from by kernel_rfl] at hlen
  match cs, hlen with
  | [c0, c1, c2, c3], _ =>
  have hxl : xs.length = 4 := hxl
  have g0 : DataW.trod enc Try.prog w 0 spare held n 28 [c0] = xs[0]? := hf 0 _ rfl
  have g1 : DataW.trod enc Try.prog w 0 spare held n 28 [c1] = xs[1]? := hf 1 _ rfl
  have g2 : DataW.trod enc Try.prog w 0 spare held n 22 [c2] = xs[2]? := hf 2 _ rfl
  have g3 : DataW.trod enc Try.prog w 0 spare held n 29 [c3] = xs[3]? := hf 3 _ rfl
  rw [List.getElem?_eq_getElem (by omega)] at g0 g1 g2 g3
  obtain ⟨v0, h0, -, w0⟩ := DataW.trod_int Try.underlying28 g0
  obtain ⟨v1, h1, -, w1⟩ := DataW.trod_int Try.underlying28 g1
  obtain ⟨v2, h2, -, w2⟩ := DataW.trod_int Try.underlying22 g2
  simp only [List.cons.injEq, and_true] at h0 h1 h2
  subst h0 h1 h2
  have b0 : -128 ≤ v0 ∧ v0 ≤ 127 := by
    simp [Lit.wf, IntKind.min, IntKind.max, IntKind.bits, IntKind.signed] at w0; omega
  have b1 : -128 ≤ v1 ∧ v1 ≤ 127 := by
    simp [Lit.wf, IntKind.min, IntKind.max, IntKind.bits, IntKind.signed] at w1; omega
  have b2 : 0 ≤ v2 ∧ v2 ≤ 18446744073709551615 := by
    simp [Lit.wf, IntKind.min, IntKind.max, IntKind.bits, IntKind.signed] at w2; omega
  rcases DataW.trod_slice Try.underlying29 g3 with ⟨h3, -⟩ | ⟨a, len, cap, elems, rest, m, rfl, h3, -, -, hlc, hcm, hel, hat, -⟩
  · simp only [List.cons.injEq, and_true] at h3
    subst h3
    exact ⟨.mk v0 v1 v2 [], _, rfl, _, rfl, b0, b1, b2, _, _, _, rfl, rfl, Nat.le_refl _, by omega, .inl rfl⟩
  · simp only [List.cons.injEq, and_true] at h3
    subst h3
    rw [maxLen_eq] at hcm
    have hC4 : Try.prog.cellsOf 31 = 4 := by kernel_rfl
    have ha : 0 < len → a = ⟨a.block, a.off, none⟩ := fun h0 => by
      have h0' := hat 0 h0
      rw [List.getElem?_eq_getElem (by omega), Option.bind_eq_some_iff] at h0'
      obtain ⟨cs0, hc0, -⟩ := h0'
      obtain ⟨-, hcl0, hce0⟩ := World.cells?_some hc0
      rw [hC4] at hcl0 hce0
      have h00 := hce0 0 (by omega)
      rw [List.getElem?_eq_getElem (by omega)] at h00
      simpa [Addr.add] using cell_nospot h00
    have hk : ∀ i, i < len → ∃ t : Tm, t.At w a.block (a.off + i * 4) := by
      intro i hi
      have hi' := hat i hi
      rw [List.getElem?_eq_getElem (by omega), Option.bind_eq_some_iff] at hi'
      obtain ⟨cs', hc, ht⟩ := hi'
      obtain ⟨t, hv⟩ := ih m (by omega) cs' _ _ ht
      obtain ⟨-, hcl, hce⟩ := World.cells?_some hc
      rw [hC4] at hcl hce
      refine ⟨t, hv.at (fun j v hjv => ?_)⟩
      have hjv' : cs'[j]? = some v := by simpa using hjv
      have hj : j < 4 := by
        have := (List.getElem?_eq_some_iff.1 hjv').1
        omega
      have := hce j hj
      rw [ha (by omega), Addr.add_mid, Addr.add_mid] at this
      rw [this]
      exact hjv'
    let ks : List Tm := List.ofFn fun i : Fin len => Classical.choose (hk i.1 i.2)
    have hkl : ks.length = len := by simp [ks]
    have hall : Tm.AllAt w ks a.block a.off := Tm.AllAt_of fun i hi => by
      have hi' : i < len := by omega
      have e : ks[i] = Classical.choose (hk i hi') := by simp [ks]
      rw [e]
      exact Classical.choose_spec (hk i hi')
    refine ⟨.mk v0 v1 v2 ks, _, rfl, _, rfl, b0, b1, b2, some a, len, cap, rfl, hkl.symm, hlc, hcm, ?_⟩
    by_cases hz : len = 0
    · exact .inl (List.length_eq_zero_iff.1 (hkl.trans hz))
    · exact .inr ⟨a.block, a.off, by rw [← ha (by omega)], hall⟩

theorem open_hdr (fuel : Nat) (cs : List Value) (d : DataW H) (ps : List MemPlace) (h : DataW.trod enc Try.prog w 0 spare held fuel 24 cs = some (d, ps)) : ∃ x : Hdr, cs = x.cs.toList := by
  obtain ⟨xs, m, rfl, -, hlen, hxl, hf⟩ := DataW.trod_array Try.underlying24 h
  rw [show Try.prog.cellsOf 24 = 11 from by kernel_rfl] at hlen
  have hi : ∀ i (h : i < 11), ∃ n : UInt64, cs[i]'(by omega) = .int .u64 (n.toNat : Int) := by
    intro i hi
    have g := hf i hi
    have hC1 : Try.prog.cellsOf 22 = 1 := by kernel_rfl
    rw [hC1, Nat.mul_one, cells_one (by omega), List.getElem?_eq_getElem (by omega)] at g
    obtain ⟨v, hv, -, wv⟩ := DataW.trod_int Try.underlying22 g
    simp only [List.cons.injEq, and_true] at hv
    simp [Lit.wf, IntKind.min, IntKind.max, IntKind.bits, IntKind.signed] at wv
    refine ⟨UInt64.ofNat v.toNat, ?_⟩
    rw [hv]
    have e : (UInt64.ofNat v.toNat).toNat = v.toNat := by rw [UInt64.toNat_ofNat']; omega
    rw [e, Int.toNat_of_nonneg (by omega)]
  refine ⟨Vector.ofFn fun i : Fin 11 => Classical.choose (hi i.1 i.2), ?_⟩
  apply List.ext_getElem
  · simp [Hdr.size_cs, hlen]
  · intro i h1 h2
    have := Classical.choose_spec (hi i (by omega))
    rw [this]
    simp [Hdr.cs, Hdr.l]
end
end Go.Proofs.Ytddeelepaiklgaa

/- The arguments of law 20 out of their data. -/
import Derived.Test.YtehdddilcakmlaaDoorNBase
import Derived.Test.YtehdddilcakmlaaDoorRow
namespace Go.Proofs.YtehdddilcakmlaaDoor
open Go.ChangeShapes Go.WideShapes Go.ChangeAt Go.RowKit Go.Deep
set_option linter.unusedSimpArgs false

theorem range_parts {α : Type} {w : World} {b k : Nat} {enc : α → List Value} (hk : ∀ x, (enc x).length = k) : ∀ (l : List α) (o : Nat), (∀ i (h : i < l.length), w.rangeAt b (o + i * k) (enc l[i])) → w.rangeAt b o (l.flatMap enc)
  | [], o, _ => by intro j v hv; simp at hv
  | x :: l, o, h => fun j v hv => by
    rw [List.flatMap_cons] at hv
    by_cases hj : j < k
    · rw [List.getElem?_append_left (by rw [hk]; exact hj)] at hv
      have := h 0 (by simp) j v hv
      simpa using this
    · rw [List.getElem?_append_right (by rw [hk]; omega), hk] at hv
      have := range_parts hk l (o + k) (fun i hi => by
        have h2 := h (i + 1) (by simpa using hi)
        rw [List.getElem_cons_succ, show o + (i + 1) * k = o + k + i * k from by rw [Nat.add_mul]; omega] at h2
        exact h2) (j - k) v hv
      rwa [show o + k + (j - k) = o + j from by omega] at this

section
variable {H : Type} {enc : TypeId × Value → H} {w : World} {spare : Nat → Bool} {held : Bool}
/-- a slice and its elements' cells -/
theorem open_sl {E e : TypeId} {k : Nat} (hu : Tryd.prog.underlying E = some (.slice e)) (hk : Tryd.prog.cellsOf e = k) (hk0 : 0 < k) (fuel : Nat) (c : Value) (d : DataW H) (ps : List MemPlace)
    (h : DataW.trod enc Tryd.prog w 0 spare held fuel E [c] = some (d, ps)) : ∃ p len cap, c = .slice p len cap ∧ len ≤ cap ∧ cap ≤ 9223372036854775807 ∧ (len = 0 ∨ ∃ b o, p = some ⟨b, o, none⟩ ∧ b < w.heap.size ∧
      ∀ i, i < len → ∃ cs m d ps, cs.length = k ∧ w.rangeAt b (o + i * k) cs ∧ DataW.trod enc Tryd.prog w 0 spare held m e cs = some (d, ps)) := by
  rcases DataW.trod_slice hu h with ⟨h3, -⟩ | ⟨a, len, cap, elems, rest, m, rfl, h3, -, -, hlc, hcm, hel, hat, -⟩
  · simp only [List.cons.injEq, and_true] at h3
    subst h3
    exact ⟨none, 0, 0, rfl, Nat.le_refl _, by omega, .inl rfl⟩
  · simp only [List.cons.injEq, and_true] at h3
    subst h3
    rw [maxLen_eq] at hcm
    refine ⟨some a, len, cap, rfl, hlc, hcm, ?_⟩
    by_cases hz : len = 0
    · exact .inl hz
    · have h0' := hat 0 (by omega)
      rw [List.getElem?_eq_getElem (by omega), Option.bind_eq_some_iff] at h0'
      obtain ⟨cs0, hc0, -⟩ := h0'
      obtain ⟨-, hcl0, hce0⟩ := World.cells?_some hc0
      rw [hk] at hcl0 hce0
      have h00 := hce0 0 hk0
      rw [List.getElem?_eq_getElem (by omega)] at h00
      have ha : a = ⟨a.block, a.off, none⟩ := by simpa [Addr.add] using cell_nospot h00
      refine .inr ⟨a.block, a.off, by rw [← ha], ?_, fun i hi => ?_⟩
      · have h01 := World.block_lt_of_cell? _ _ h00
        simpa [Addr.add] using h01
      · have hi' := hat i hi
        rw [List.getElem?_eq_getElem (by omega), Option.bind_eq_some_iff] at hi'
        obtain ⟨cs', hc, ht⟩ := hi'
        obtain ⟨-, hcl, hce⟩ := World.cells?_some hc
        rw [hk] at hcl hce
        refine ⟨cs', m, _, _, hcl, fun j v hjv => ?_, ht⟩
        have hj : j < k := by
          have := (List.getElem?_eq_some_iff.1 hjv).1
          omega
        have := hce j hj
        rw [ha, Addr.add_mid, Addr.add_mid] at this
        rw [this]
        exact hjv

set_option maxRecDepth 4000 in
theorem open_act (fuel : Nat) (cs : List Value) (d : DataW H) (ps : List MemPlace) (h : DataW.trod enc Tryd.prog w 0 spare held fuel 54 cs = some (d, ps)) : ∃ x : AcD, cs = x.cs ∧ x.ok := by
  obtain ⟨xs, n, rfl, -, hlen, hxl, hf⟩ := DataW.trod_struct Tryd.underlying54 h
  rw [show Tryd.prog.cellsOf 54 = 3 from by kernel_rfl] at hlen
  match cs, hlen with
  | [c0, c1, c2], _ =>
  have hxl : xs.length = 3 := hxl
  have g0 : DataW.trod enc Tryd.prog w 0 spare held n 32 [c0] = xs[0]? := hf 0 _ rfl
  have g1 : DataW.trod enc Tryd.prog w 0 spare held n 32 [c1] = xs[1]? := hf 1 _ rfl
  have g2 : DataW.trod enc Tryd.prog w 0 spare held n 33 [c2] = xs[2]? := hf 2 _ rfl
  rw [List.getElem?_eq_getElem (by omega)] at g0 g1 g2
  obtain ⟨v0, h0, -, w0⟩ := DataW.trod_int Tryd.underlying32 g0
  obtain ⟨v1, h1, -, w1⟩ := DataW.trod_int Tryd.underlying32 g1
  obtain ⟨v2, h2, -, w2⟩ := DataW.trod_int Tryd.underlying33 g2
  simp only [List.cons.injEq, and_true] at h0 h1 h2
  subst h0 h1 h2
  simp [Lit.wf, IntKind.min, IntKind.max, IntKind.bits, IntKind.signed] at w0 w1 w2
  refine ⟨⟨v0, v1, v2⟩, rfl, ?_⟩
  unfold AcD.ok
  dsimp only
  omega
set_option maxRecDepth 4000 in
theorem open_row (fuel : Nat) (c : Value) (d : DataW H) (ps : List MemPlace) (h : DataW.trod enc Tryd.prog w 0 spare held fuel 52 [c] = some (d, ps)) : ∃ r : RowD, RowOn AnyB w r c := by
  obtain ⟨p, len, cap, rfl, hlc, hcm, hh⟩ := open_sl Tryd.underlying52 (k := 3) (by kernel_rfl) (by omega) fuel c d ps h
  rcases hh with rfl | ⟨b, o, rfl, hb, hat⟩
  · exact ⟨[], p, 0, cap, rfl, rfl, hlc, hcm, (fun _ h => by cases h), .inl rfl⟩
  · have hx : ∀ i, i < len → ∃ x : AcD, w.rangeAt b (o + i * 3) x.cs ∧ x.ok := fun i hi => by
      obtain ⟨cs, m, d, ps, -, hr, ht⟩ := hat i hi
      obtain ⟨x, rfl, hok⟩ := open_act m cs d ps ht
      exact ⟨x, hr, hok⟩
    let l : List AcD := List.ofFn fun i : Fin len => Classical.choose (hx i.1 i.2)
    have hll : l.length = len := by simp [l]
    have hl : ∀ i (h : i < l.length), w.rangeAt b (o + i * 3) (l[i]).cs ∧ (l[i]).ok := fun i hi => by
      have hi' : i < len := by omega
      have e : l[i] = Classical.choose (hx i hi') := by simp [l]
      rw [e]
      exact Classical.choose_spec (hx i hi')
    refine ⟨l, _, len, cap, rfl, hll.symm, hlc, hcm, fun x hx => ?_, .inr ⟨b, o, rfl, trivial, hb, ?_⟩⟩
    · obtain ⟨i, hi, rfl⟩ := List.getElem_of_mem hx
      exact (hl i hi).2
    · exact range_parts (enc := AcD.cs) (fun _ => rfl) l o (fun i hi => (hl i hi).1)
set_option maxRecDepth 4000 in
theorem open_rows (fuel : Nat) (c : Value) (d : DataW H) (ps : List MemPlace) (h : DataW.trod enc Tryd.prog w 0 spare held fuel 31 [c] = some (d, ps)) : ∃ r : List RowD, RowsOn AnyB w r c := by
  obtain ⟨p, len, cap, rfl, hlc, hcm, hh⟩ := open_sl Tryd.underlying31 (k := 1) (by kernel_rfl) (by omega) fuel c d ps h
  rcases hh with rfl | ⟨b, o, rfl, hb, hat⟩
  · exact ⟨[], p, 0, cap, rfl, rfl, hlc, hcm, .inl rfl⟩
  · have hx : ∀ i, i < len → ∃ x : RowD × Value, w.rangeAt b (o + i * 1) [x.2] ∧ RowOn AnyB w x.1 x.2 := fun i hi => by
      obtain ⟨cs, m, d, ps, hl, hr, ht⟩ := hat i hi
      match cs, hl with
      | [c], _ =>
      obtain ⟨x, hx⟩ := open_row m c d ps ht
      exact ⟨(x, c), hr, hx⟩
    let l : List (RowD × Value) := List.ofFn fun i : Fin len => Classical.choose (hx i.1 i.2)
    have hll : l.length = len := by simp [l]
    have hl : ∀ i (h : i < l.length), w.rangeAt b (o + i * 1) [(l[i]).2] ∧ RowOn AnyB w (l[i]).1 (l[i]).2 := fun i hi => by
      have hi' : i < len := by omega
      have e : l[i] = Classical.choose (hx i hi') := by simp [l]
      rw [e]
      exact Classical.choose_spec (hx i hi')
    refine ⟨l.map (·.1), _, len, cap, rfl, by rw [List.length_map]; exact hll.symm, hlc, hcm, .inr ⟨b, o, l.map (·.2), rfl, trivial, hb, by simp, ?_, fun i h1 h2 => ?_⟩⟩
    · rw [List.map_eq_flatMap]
      exact range_parts (w := w) (b := b) (k := 1) (enc := fun x : RowD × Value => [x.2]) (fun _ => rfl) l o (fun i hi => (hl i hi).1)
    · have := (hl i (by simpa using h1)).2
      simpa using this
end

theorem recR : Tryd.prog.readableRec 31 = true := by kernel_rfl
theorem rowR : (31 : TypeId) < Tryd.prog.types.size := of_decide_eq_true (by kernel_rfl)
theorem recI8 : Tryd.prog.readableRec 32 = true := by kernel_rfl
theorem rowI8 : (32 : TypeId) < Tryd.prog.types.size := of_decide_eq_true (by kernel_rfl)
theorem recU : Tryd.prog.readableRec 33 = true := by kernel_rfl
theorem rowU : (33 : TypeId) < Tryd.prog.types.size := of_decide_eq_true (by kernel_rfl)
theorem recInt : Tryd.prog.readableRec 3 = true := by kernel_rfl
theorem rowInt : (3 : TypeId) < Tryd.prog.types.size := of_decide_eq_true (by kernel_rfl)
section
variable {H : Type} {enc : TypeId × Value → H} {base : Nat}
set_option maxRecDepth 4000 in
theorem rows_val {W : World} {v : Value} {d : DataW H} {ps : List MemPlace} (ho : Value.okWide Tryd.prog W .any base 31 v) (h : DataW.Trod enc Tryd.prog W 0 (fun _ => true) true 31 v d ps) : ∃ l : List RowD, RowsOn AnyB W l v := by
  obtain ⟨fuel, hf⟩ := h
  have hc : v.cells = #[v] := by
    obtain ⟨a, len, cap, rfl⟩ := okWide_slice Tryd.underlying31 ho
    rfl
  rw [hc] at hf
  exact open_rows fuel v _ _ hf
set_option maxRecDepth 4000 in
theorem int_val {W : World} {v : Value} (ho : Value.okWide Tryd.prog W .any base 3 v) : ∃ n : Int, v = .int .i64 n ∧ -9223372036854775808 ≤ n ∧ n ≤ 9223372036854775807 := by
  obtain ⟨n, rfl⟩ := okWide_int Tryd.underlying3 ho
  simp only [Value.okWide, Tryd.underlying3] at ho
  have hw := ho.2
  refine ⟨n, rfl, ?_⟩
  simp [IntKind.has, IntKind.min, IntKind.max, IntKind.bits, IntKind.signed] at hw
  omega
set_option maxRecDepth 4000 in
theorem int8_val {W : World} {v : Value} (ho : Value.okWide Tryd.prog W .any base 32 v) : ∃ n : Int, v = .int .i8 n ∧ -128 ≤ n ∧ n ≤ 127 := by
  obtain ⟨n, rfl⟩ := okWide_int Tryd.underlying32 ho
  simp only [Value.okWide, Tryd.underlying32] at ho
  have hw := ho.2
  refine ⟨n, rfl, ?_⟩
  simp [IntKind.has, IntKind.min, IntKind.max, IntKind.bits, IntKind.signed] at hw
  omega
set_option maxRecDepth 4000 in
theorem uint64_val {W : World} {v : Value} (ho : Value.okWide Tryd.prog W .any base 33 v) : ∃ n : Int, v = .int .u64 n ∧ 0 ≤ n ∧ n ≤ 18446744073709551615 := by
  obtain ⟨n, rfl⟩ := okWide_int Tryd.underlying33 ho
  simp only [Value.okWide, Tryd.underlying33] at ho
  have hw := ho.2
  refine ⟨n, rfl, ?_⟩
  simp [IntKind.has, IntKind.min, IntKind.max, IntKind.bits, IntKind.signed] at hw
  omega
theorem stays_Rows {W W' : World} {v : Value} {d : DataW H} {ps : List MemPlace} (sp : Nat → Bool) (h : DataW.Trod enc Tryd.prog W 0 (fun _ => true) true 31 v d ps) (hb : Below W.heap.size W W') (hlt : ∀ x ∈ ps, x.block < W.heap.size) (hs : ∀ x ∈ ps, sp x.block = true) :
    DataW.Trod enc Tryd.prog W' 0 sp true 31 v d ps := WideElems.Trod_stays laidL recR rowR h (fun x hx => hb.same (hlt x hx)) hs
theorem stays_I8 {W W' : World} {v : Value} {d : DataW H} {ps : List MemPlace} (sp : Nat → Bool) (h : DataW.Trod enc Tryd.prog W 0 (fun _ => true) true 32 v d ps) (hb : Below W.heap.size W W') (hlt : ∀ x ∈ ps, x.block < W.heap.size) (hs : ∀ x ∈ ps, sp x.block = true) :
    DataW.Trod enc Tryd.prog W' 0 sp true 32 v d ps := WideElems.Trod_stays laidL recI8 rowI8 h (fun x hx => hb.same (hlt x hx)) hs
theorem stays_U64 {W W' : World} {v : Value} {d : DataW H} {ps : List MemPlace} (sp : Nat → Bool) (h : DataW.Trod enc Tryd.prog W 0 (fun _ => true) true 33 v d ps) (hb : Below W.heap.size W W') (hlt : ∀ x ∈ ps, x.block < W.heap.size) (hs : ∀ x ∈ ps, sp x.block = true) :
    DataW.Trod enc Tryd.prog W' 0 sp true 33 v d ps := WideElems.Trod_stays laidL recU rowU h (fun x hx => hb.same (hlt x hx)) hs
theorem stays_Int {W W' : World} {v : Value} {d : DataW H} {ps : List MemPlace} (sp : Nat → Bool) (h : DataW.Trod enc Tryd.prog W 0 (fun _ => true) true 3 v d ps) (hb : Below W.heap.size W W') (hlt : ∀ x ∈ ps, x.block < W.heap.size) (hs : ∀ x ∈ ps, sp x.block = true) :
    DataW.Trod enc Tryd.prog W' 0 sp true 3 v d ps := WideElems.Trod_stays laidL recInt rowInt h (fun x hx => hb.same (hlt x hx)) hs
end
end Go.Proofs.YtehdddilcakmlaaDoor

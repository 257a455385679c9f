/- The arguments of law 20 with their bounds; acts. -/
import Derived.Test.YtehdddilcakmlaaDoorNOpen
import Derived.SizedLaws
namespace Go.Proofs.YtehdddilcakmlaaDoor
open Go.ChangeShapes Go.WideShapes Go.ChangeAt Go.RowKit Go.Deep
set_option linter.unusedSimpArgs false

abbrev maxB : Nat := 140737488351232
structure ActD where
  d : Int
  rows : List RowD
  f : Int
  n : Int
  hi : Int
  lo : Int
def ActD.cs (x : ActD) (rv : Value) : List Value := [.int .i64 x.d, rv, .int .i8 x.f, .int .u64 x.n, .int .i64 x.hi, .int .i64 x.lo]
def RowsB (l : List RowD) : Prop := l.length ≤ maxB ∧ ∀ r ∈ l, r.length ≤ maxB
def ActD.ok (x : ActD) : Prop := (-9223372036854775808 ≤ x.d ∧ x.d ≤ 9223372036854775807) ∧ (-128 ≤ x.f ∧ x.f ≤ 127) ∧ (0 ≤ x.n ∧ x.n ≤ 18446744073709551615) ∧ (-9223372036854775808 ≤ x.hi ∧ x.hi ≤ 9223372036854775807) ∧ (-9223372036854775808 ≤ x.lo ∧ x.lo ≤ 9223372036854775807) ∧ RowsB x.rows
def ActAt (w : World) (x : ActD) (b o : Nat) : Prop := ∃ rv, w.rangeAt b o (x.cs rv) ∧ RowsOn AnyB w x.rows rv ∧ x.ok
def ActsOn (w : World) (l : List ActD) (v : Value) : Prop := ∃ p len cap, v = .slice p len cap ∧ len = l.length ∧ len ≤ cap ∧ cap ≤ 9223372036854775807 ∧ len ≤ maxB ∧ (l = [] ∨ ∃ b o, p = some ⟨b, o, none⟩ ∧ b < w.heap.size ∧ ∀ i (h : i < l.length), ActAt w (l[i]) b (o + i * 6))

section
variable {H : Type} {enc : TypeId × Value → H} {w : World} {spare : Nat → Bool} {held : Bool}
def Wt (t : TypeId) (d : DataW H) : Prop := ∀ n ∈ d.weights Tryd.prog t, n ≤ maxB
theorem wt_all {e : TypeId} : ∀ {l : List (DataW H)} {i : Nat} {d : DataW H}, l[i]? = some d → ∀ n ∈ d.weights Tryd.prog e, n ∈ DataW.weightsAll Tryd.prog e l
  | [], _, _, h, _, _ => by simp at h
  | x :: l, 0, d, h, n, hn => by
    simp only [List.getElem?_cons_zero, Option.some.injEq] at h
    subst h
    simp only [DataW.weightsAll, List.mem_append]
    exact .inl hn
  | x :: l, i + 1, d, h, n, hn => by
    simp only [List.getElem?_cons_succ] at h
    simp only [DataW.weightsAll, List.mem_append]
    exact .inr (wt_all h n hn)
theorem wt_struct {t : TypeId} {fs : Array Field} {parts : List (DataW H)} (hu : Tryd.prog.underlying t = some (.struct fs)) (h : Wt t (.agg parts)) {j : Nat} {f : Field} {d : DataW H} (hf : fs[j]? = some f) (hd : parts[j]? = some d) : Wt f.type d := fun n hn => by
  refine h n ?_
  simp only [DataW.weights, hu]
  exact DataW.weights_mem_each (j := j) (by simp [hf]) hd n hn
/-- a slice, its elements' cells, its bounds -/
theorem open_slw {E e : TypeId} {k : Nat} (hu : Tryd.prog.underlying E = some (.slice e)) (hk : Tryd.prog.cellsOf e = k) (hk0 : 0 < k) (hby : 0 < Tryd.prog.bytesOf e) (fuel : Nat) (c : Value) (d : DataW H) (ps : List MemPlace) (hw : Wt E d)
    (h : DataW.trod enc Tryd.prog w 0 spare held fuel E [c] = some (d, ps)) : ∃ p len cap, c = .slice p len cap ∧ len ≤ cap ∧ cap ≤ 9223372036854775807 ∧ len ≤ maxB ∧ (len = 0 ∨ ∃ b o, p = some ⟨b, o, none⟩ ∧ b < w.heap.size ∧
      ∀ i, i < len → ∃ cs m d ps, cs.length = k ∧ w.rangeAt b (o + i * k) cs ∧ DataW.trod enc Tryd.prog w 0 spare held m e cs = some (d, ps) ∧ Wt e d) := by
  rcases DataW.trod_slice hu h with ⟨h3, -⟩ | ⟨a, len, cap, elems, rest, m, rfl, h3, hd, -, hlc, hcm, hel, hat, -⟩
  · simp only [List.cons.injEq, and_true] at h3
    subst h3
    exact ⟨none, 0, 0, rfl, Nat.le_refl _, by omega, by omega, .inl rfl⟩
  · simp only [List.cons.injEq, and_true] at h3
    subst h3
    rw [maxLen_eq] at hcm
    have hd1 : d = .slice (elems.map (·.1)) (rest.map (·.1)) := (Prod.mk.inj hd).1
    subst hd1
    have hlw : len ≤ maxB := by
      have h1 := hw (((elems.map (·.1)).length + (rest.map (·.1)).length) * Tryd.prog.bytesOf e) (by simp [DataW.weights, hu])
      rw [List.length_map, List.length_map, hel] at h1
      have h2 : len * 1 ≤ (len + rest.length) * Tryd.prog.bytesOf e := Nat.mul_le_mul (by omega) hby
      omega
    refine ⟨some a, len, cap, rfl, hlc, hcm, hlw, ?_⟩
    by_cases hz : len = 0
    · exact .inl hz
    · have h0' := hat 0 (by omega)
      rw [List.getElem?_eq_getElem (by omega), Option.bind_eq_some_iff] at h0'
      obtain ⟨cs0, hc0, -⟩ := h0'
      obtain ⟨-, hcl0, hce0⟩ := World.cells?_some hc0
      rw [hk] at hcl0 hce0
      have h00 := hce0 0 hk0
      rw [List.getElem?_eq_getElem (by omega)] at h00
      have ha : a = ⟨a.block, a.off, none⟩ := by simpa [Addr.add] using cell_nospot h00
      refine .inr ⟨a.block, a.off, by rw [← ha], ?_, fun i hi => ?_⟩
      · have h01 := World.block_lt_of_cell? _ _ h00
        simpa [Addr.add] using h01
      · have hi' := hat i hi
        have hie : i < elems.length := by omega
        rw [List.getElem?_eq_getElem hie, Option.bind_eq_some_iff] at hi'
        obtain ⟨cs', hc, ht⟩ := hi'
        obtain ⟨-, hcl, hce⟩ := World.cells?_some hc
        rw [hk] at hcl hce
        refine ⟨cs', m, (elems[i]).1, (elems[i]).2, hcl, fun j v hjv => ?_, ht, fun n hn => ?_⟩
        · have hj : j < k := by
            have := (List.getElem?_eq_some_iff.1 hjv).1
            omega
          have := hce j hj
          rw [ha, Addr.add_mid, Addr.add_mid] at this
          rw [this]
          exact hjv
        · refine hw n ?_
          have := wt_all (l := elems.map (·.1)) (i := i) (d := (elems[i]).1) (e := e) (by simp [hie]) n hn
          simp only [DataW.weights, hu, List.mem_cons, List.mem_append]
          exact .inr (.inl this)
set_option maxRecDepth 4000 in
theorem open_roww (fuel : Nat) (c : Value) (d : DataW H) (ps : List MemPlace) (hw : Wt 52 d) (h : DataW.trod enc Tryd.prog w 0 spare held fuel 52 [c] = some (d, ps)) : ∃ r : RowD, RowOn AnyB w r c ∧ r.length ≤ maxB := by
  obtain ⟨p, len, cap, rfl, hlc, hcm, hlm, hh⟩ := open_slw Tryd.underlying52 (k := 3) (by kernel_rfl) (by omega) (of_decide_eq_true (by kernel_rfl)) fuel c d ps hw h
  rcases hh with rfl | ⟨b, o, rfl, hb, hat⟩
  · exact ⟨[], ⟨p, 0, cap, rfl, rfl, hlc, hcm, (fun _ h => by cases h), .inl rfl⟩, by simp⟩
  · have hx : ∀ i, i < len → ∃ x : AcD, w.rangeAt b (o + i * 3) x.cs ∧ x.ok := fun i hi => by
      obtain ⟨cs, m, d, ps, -, hr, ht, -⟩ := hat i hi
      obtain ⟨x, rfl, hok⟩ := open_act m cs d ps ht
      exact ⟨x, hr, hok⟩
    let l : List AcD := List.ofFn fun i : Fin len => Classical.choose (hx i.1 i.2)
    have hll : l.length = len := by simp [l]
    have hl : ∀ i (h : i < l.length), w.rangeAt b (o + i * 3) (l[i]).cs ∧ (l[i]).ok := fun i hi => by
      have hi' : i < len := by omega
      have e : l[i] = Classical.choose (hx i hi') := by simp [l]
      rw [e]
      exact Classical.choose_spec (hx i hi')
    refine ⟨l, ⟨_, len, cap, rfl, hll.symm, hlc, hcm, fun x hx => ?_, .inr ⟨b, o, rfl, trivial, hb, ?_⟩⟩, by omega⟩
    · obtain ⟨i, hi, rfl⟩ := List.getElem_of_mem hx
      exact (hl i hi).2
    · exact range_parts (enc := AcD.cs) (fun _ => rfl) l o (fun i hi => (hl i hi).1)
set_option maxRecDepth 4000 in
theorem open_rowsw (fuel : Nat) (c : Value) (d : DataW H) (ps : List MemPlace) (hw : Wt 31 d) (h : DataW.trod enc Tryd.prog w 0 spare held fuel 31 [c] = some (d, ps)) : ∃ r : List RowD, RowsOn AnyB w r c ∧ RowsB r := by
  obtain ⟨p, len, cap, rfl, hlc, hcm, hlm, hh⟩ := open_slw Tryd.underlying31 (k := 1) (by kernel_rfl) (by omega) (of_decide_eq_true (by kernel_rfl)) fuel c d ps hw h
  rcases hh with rfl | ⟨b, o, rfl, hb, hat⟩
  · exact ⟨[], ⟨p, 0, cap, rfl, rfl, hlc, hcm, .inl rfl⟩, by simp, (fun _ h => by cases h)⟩
  · have hx : ∀ i, i < len → ∃ x : RowD × Value, w.rangeAt b (o + i * 1) [x.2] ∧ RowOn AnyB w x.1 x.2 ∧ x.1.length ≤ maxB := fun i hi => by
      obtain ⟨cs, m, d, ps, hl, hr, ht, hwd⟩ := hat i hi
      match cs, hl with
      | [c], _ =>
      obtain ⟨x, hx, hm⟩ := open_roww m c d ps hwd ht
      exact ⟨(x, c), hr, hx, hm⟩
    let l : List (RowD × Value) := List.ofFn fun i : Fin len => Classical.choose (hx i.1 i.2)
    have hll : l.length = len := by simp [l]
    have hl : ∀ i (h : i < l.length), w.rangeAt b (o + i * 1) [(l[i]).2] ∧ RowOn AnyB w (l[i]).1 (l[i]).2 ∧ (l[i]).1.length ≤ maxB := fun i hi => by
      have hi' : i < len := by omega
      have e : l[i] = Classical.choose (hx i hi') := by simp [l]
      rw [e]
      exact Classical.choose_spec (hx i hi')
    refine ⟨l.map (·.1), ⟨_, len, cap, rfl, by rw [List.length_map]; exact hll.symm, hlc, hcm, .inr ⟨b, o, l.map (·.2), rfl, trivial, hb, by simp, ?_, fun i h1 h2 => ?_⟩⟩, by rw [List.length_map]; omega, fun r hr => ?_⟩
    · rw [List.map_eq_flatMap]
      exact range_parts (w := w) (b := b) (k := 1) (enc := fun x : RowD × Value => [x.2]) (fun _ => rfl) l o (fun i hi => (hl i hi).1)
    · have := (hl i (by simpa using h1)).2.1
      simpa using this
    · obtain ⟨i, hi, rfl⟩ := List.getElem_of_mem hr
      have := (hl i (by simpa using hi)).2.2
      simpa using this
set_option maxRecDepth 4000 in
theorem open_actd (fuel : Nat) (cs : List Value) (d : DataW H) (ps : List MemPlace) (hw : Wt 35 d) (h : DataW.trod enc Tryd.prog w 0 spare held fuel 35 cs = some (d, ps)) : ∃ x : ActD, ∀ b o, w.rangeAt b o cs → ActAt w x b o := by
  obtain ⟨xs, n, rfl, hd, hlen, hxl, hf⟩ := DataW.trod_struct Tryd.underlying35 h
  have hd1 : d = .agg (xs.map (·.1)) := (Prod.mk.inj hd).1
  subst hd1
  rw [show Tryd.prog.cellsOf 35 = 6 from by kernel_rfl] at hlen
  match cs, hlen with
  | [c0, c1, c2, c3, c4, c5], _ =>
  have hxl : xs.length = 6 := hxl
  have hw1 : Wt 31 (xs[1]).1 := wt_struct (j := 1) Tryd.underlying35 hw rfl (by rw [List.getElem?_map, List.getElem?_eq_getElem (by omega)]; rfl)
  have g0 : DataW.trod enc Tryd.prog w 0 spare held n 3 [c0] = xs[0]? := hf 0 _ rfl
  have g1 : DataW.trod enc Tryd.prog w 0 spare held n 31 [c1] = xs[1]? := hf 1 _ rfl
  have g2 : DataW.trod enc Tryd.prog w 0 spare held n 32 [c2] = xs[2]? := hf 2 _ rfl
  have g3 : DataW.trod enc Tryd.prog w 0 spare held n 33 [c3] = xs[3]? := hf 3 _ rfl
  have g4 : DataW.trod enc Tryd.prog w 0 spare held n 3 [c4] = xs[4]? := hf 4 _ rfl
  have g5 : DataW.trod enc Tryd.prog w 0 spare held n 3 [c5] = xs[5]? := hf 5 _ rfl
  rw [List.getElem?_eq_getElem (by omega)] at g0 g1 g2 g3 g4 g5
  obtain ⟨v0, h0, -, w0⟩ := DataW.trod_int Tryd.underlying3 g0
  obtain ⟨r, hr, hrb⟩ := open_rowsw n c1 (xs[1]).1 (xs[1]).2 hw1 g1
  obtain ⟨v2, h2, -, w2⟩ := DataW.trod_int Tryd.underlying32 g2
  obtain ⟨v3, h3, -, w3⟩ := DataW.trod_int Tryd.underlying33 g3
  obtain ⟨v4, h4, -, w4⟩ := DataW.trod_int Tryd.underlying3 g4
  obtain ⟨v5, h5, -, w5⟩ := DataW.trod_int Tryd.underlying3 g5
  simp only [List.cons.injEq, and_true] at h0 h2 h3 h4 h5
  subst h0 h2 h3 h4 h5
  simp [Lit.wf, IntKind.min, IntKind.max, IntKind.bits, IntKind.signed] at w0 w2 w3 w4 w5
  refine ⟨⟨v0, r, v2, v3, v4, v5⟩, fun b o hh => ⟨c1, hh, hr, ?_⟩⟩
  refine ⟨?_, ?_, ?_, ?_, ?_, hrb⟩ <;> dsimp only <;> omega
set_option maxRecDepth 4000 in
theorem open_acts (fuel : Nat) (c : Value) (d : DataW H) (ps : List MemPlace) (hw : Wt 22 d) (h : DataW.trod enc Tryd.prog w 0 spare held fuel 22 [c] = some (d, ps)) : ∃ l : List ActD, ActsOn w l c := by
  obtain ⟨p, len, cap, rfl, hlc, hcm, hlm, hh⟩ := open_slw Tryd.underlying22 (k := 6) (by kernel_rfl) (by omega) (of_decide_eq_true (by kernel_rfl)) fuel c d ps hw h
  rcases hh with rfl | ⟨b, o, rfl, hb, hat⟩
  · exact ⟨[], p, 0, cap, rfl, rfl, hlc, hcm, hlm, .inl rfl⟩
  · have hx : ∀ i, i < len → ∃ x : ActD, ActAt w x b (o + i * 6) := fun i hi => by
      obtain ⟨cs, m, d, ps, hl, hr, ht, hwd⟩ := hat i hi
      obtain ⟨x, hx⟩ := open_actd m cs d ps hwd ht
      exact ⟨x, hx _ _ hr⟩
    let l : List ActD := List.ofFn fun i : Fin len => Classical.choose (hx i.1 i.2)
    have hll : l.length = len := by simp [l]
    refine ⟨l, _, len, cap, rfl, hll.symm, hlc, hcm, hlm, .inr ⟨b, o, rfl, hb, fun i hi => ?_⟩⟩
    have hi' : i < len := by omega
    have e : l[i] = Classical.choose (hx i hi') := by simp [l]
    rw [e]
    exact Classical.choose_spec (hx i hi')
end

theorem recA : Tryd.prog.readableRec 22 = true := by kernel_rfl
theorem rowA : (22 : TypeId) < Tryd.prog.types.size := of_decide_eq_true (by kernel_rfl)
section
variable {H : Type} {enc : TypeId × Value → H} {base : Nat}
theorem wt_at {ts : List TypeId} {ds : List (DataW H)} (h : (DataW.weightsEach Tryd.prog ts ds).all (· ≤ reachBytes) = true) {j : Nat} {t : TypeId} {d : DataW H} (ht : ts[j]? = some t) (hd : ds[j]? = some d) : Wt t d := fun n hn => by
  have := List.all_eq_true.1 h n (DataW.weights_mem_each ht hd n hn)
  have h1 : n ≤ reachBytes := by simpa using this
  exact h1
set_option maxRecDepth 4000 in
theorem rowsw_val {W : World} {v : Value} {d : DataW H} {ps : List MemPlace} (ho : Value.okWide Tryd.prog W .any base 31 v) (h : DataW.Trod enc Tryd.prog W 0 (fun _ => true) true 31 v d ps) (hw : Wt 31 d) : ∃ l : List RowD, RowsOn AnyB W l v ∧ RowsB l := by
  obtain ⟨fuel, hf⟩ := h
  have hc : v.cells = #[v] := by
    obtain ⟨a, len, cap, rfl⟩ := okWide_slice Tryd.underlying31 ho
    rfl
  rw [hc] at hf
  exact open_rowsw fuel v _ _ hw hf
set_option maxRecDepth 4000 in
theorem acts_val {W : World} {v : Value} {d : DataW H} {ps : List MemPlace} (ho : Value.okWide Tryd.prog W .any base 22 v) (h : DataW.Trod enc Tryd.prog W 0 (fun _ => true) true 22 v d ps) (hw : Wt 22 d) : ∃ l : List ActD, ActsOn W l v := by
  obtain ⟨fuel, hf⟩ := h
  have hc : v.cells = #[v] := by
    obtain ⟨a, len, cap, rfl⟩ := okWide_slice Tryd.underlying22 ho
    rfl
  rw [hc] at hf
  exact open_acts fuel v _ _ hw hf
theorem stays_Acts {W W' : World} {v : Value} {d : DataW H} {ps : List MemPlace} (sp : Nat → Bool) (h : DataW.Trod enc Tryd.prog W 0 (fun _ => true) true 22 v d ps) (hb : Below W.heap.size W W') (hlt : ∀ x ∈ ps, x.block < W.heap.size) (hs : ∀ x ∈ ps, sp x.block = true) :
    DataW.Trod enc Tryd.prog W' 0 sp true 22 v d ps := WideElems.Trod_stays laidL recA rowA h (fun x hx => hb.same (hlt x hx)) hs
end
end Go.Proofs.YtehdddilcakmlaaDoor

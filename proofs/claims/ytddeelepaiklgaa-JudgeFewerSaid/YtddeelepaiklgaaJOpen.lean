/- The arguments of law 30 out of their data. -/
import Derived.Test.YtddeelepaiklgaaJOver
import Derived.Test.YtddeelepaiklgaaRow
namespace Go.Proofs.Ytddeelepaiklgaa
open Go.ChangeShapes Go.WideShapes Go.ChangeAt Go.RowKit Go.Deep

section
variable {H : Type} {enc : TypeId × Value → H} {w : World} {spare : Nat → Bool} {held : Bool}

theorem open_slice {α : Type} {E e : TypeId} {k : Nat} (hu : Try.prog.underlying E = some (.slice e)) (hk : Try.prog.cellsOf e = k) (hk0 : 0 < k) (At : World → α → Nat → Nat → Prop) (fuel : Nat)
    (hop : ∀ m, m < fuel → ∀ cs d ps, DataW.trod enc Try.prog w 0 spare held m e cs = some (d, ps) → ∃ x : α, ∀ b o, w.rangeAt b o cs → At w x b o) (c : Value) (d : DataW H) (ps : List MemPlace)
    (h : DataW.trod enc Try.prog w 0 spare held fuel E [c] = some (d, ps)) : ∃ l : List α, SlOf At k w l c := by
  rcases DataW.trod_slice hu h with ⟨h3, -⟩ | ⟨a, len, cap, elems, rest, m, rfl, h3, -, -, hlc, hcm, hel, hat, -⟩
  · simp only [List.cons.injEq, and_true] at h3
    subst h3
    exact ⟨[], none, 0, 0, rfl, rfl, Nat.le_refl _, by omega, .inl rfl⟩
  · simp only [List.cons.injEq, and_true] at h3
    subst h3
    rw [maxLen_eq] at hcm
    have ha : 0 < len → a = ⟨a.block, a.off, none⟩ := fun h0 => by
      have h0' := hat 0 h0
      rw [List.getElem?_eq_getElem (by omega), Option.bind_eq_some_iff] at h0'
      obtain ⟨cs0, hc0, -⟩ := h0'
      obtain ⟨-, hcl0, hce0⟩ := World.cells?_some hc0
      rw [hk] at hcl0 hce0
      have h00 := hce0 0 hk0
      rw [List.getElem?_eq_getElem (by omega)] at h00
      simpa [Addr.add] using cell_nospot h00
    have hx : ∀ i, i < len → ∃ x : α, At w x a.block (a.off + i * k) := by
      intro i hi
      have hi' := hat i hi
      rw [List.getElem?_eq_getElem (by omega), Option.bind_eq_some_iff] at hi'
      obtain ⟨cs', hc, ht⟩ := hi'
      obtain ⟨x, hv⟩ := hop m (by omega) cs' _ _ ht
      obtain ⟨-, hcl, hce⟩ := World.cells?_some hc
      rw [hk] at hcl hce
      refine ⟨x, hv _ _ (fun j v hjv => ?_)⟩
      have hj : j < k := by
        have := (List.getElem?_eq_some_iff.1 hjv).1
        omega
      have := hce j hj
      rw [ha (by omega), Addr.add_mid, Addr.add_mid] at this
      rw [this]
      exact hjv
    let l : List α := List.ofFn fun i : Fin len => Classical.choose (hx i.1 i.2)
    have hll : l.length = len := by simp [l]
    refine ⟨l, some a, len, cap, rfl, hll.symm, hlc, hcm, ?_⟩
    by_cases hz : len = 0
    · exact .inl (List.length_eq_zero_iff.1 (hll.trans hz))
    · refine .inr ⟨a.block, a.off, by rw [← ha (by omega)], fun i hi => ?_⟩
      have hi' : i < len := by omega
      have e : l[i] = Classical.choose (hx i hi') := by simp [l]
      rw [e]
      exact Classical.choose_spec (hx i hi')

set_option maxRecDepth 4000 in
theorem open_spot (fuel : Nat) (cs : List Value) (d : DataW H) (ps : List MemPlace) (h : DataW.trod enc Try.prog w 0 spare held fuel 58 cs = some (d, ps)) : ∃ a b : Int, cs = [.int .u16 a, .int .u16 b] ∧ (0 ≤ a ∧ a ≤ 65535) ∧ (0 ≤ b ∧ b ≤ 65535) := by
  obtain ⟨xs, n, rfl, -, hlen, hxl, hf⟩ := DataW.trod_struct Try.underlying58 h
  rw [show Try.prog.cellsOf 58 = 2 from by kernel_rfl] at hlen
  match cs, hlen with
  | [c0, c1], _ =>
  have hxl : xs.length = 2 := hxl
  have g0 : DataW.trod enc Try.prog w 0 spare held n 56 [c0] = xs[0]? := hf 0 _ rfl
  have g1 : DataW.trod enc Try.prog w 0 spare held n 56 [c1] = xs[1]? := hf 1 _ rfl
  rw [List.getElem?_eq_getElem (by omega)] at g0 g1
  obtain ⟨v0, h0, -, w0⟩ := DataW.trod_int Try.underlying56 g0
  obtain ⟨v1, h1, -, w1⟩ := DataW.trod_int Try.underlying56 g1
  simp only [List.cons.injEq, and_true] at h0 h1
  subst h0 h1
  simp [Lit.wf, IntKind.min, IntKind.max, IntKind.bits, IntKind.signed] at w0 w1
  exact ⟨v0, v1, rfl, by omega, by omega⟩
set_option maxRecDepth 4000 in
theorem open_wire (fuel : Nat) (cs : List Value) (d : DataW H) (ps : List MemPlace) (h : DataW.trod enc Try.prog w 0 spare held fuel 60 cs = some (d, ps)) : ∃ x : WireD, ∀ b o, w.rangeAt b o cs → WAt w x b o := by
  obtain ⟨xs, n, rfl, -, hlen, hxl, hf⟩ := DataW.trod_struct Try.underlying60 h
  rw [show Try.prog.cellsOf 60 = 4 from by kernel_rfl] at hlen
  match cs, hlen with
  | [c0, c1, c2, c3], _ =>
  have hxl : xs.length = 2 := hxl
  have g0 : DataW.trod enc Try.prog w 0 spare held n 58 [c0, c1] = xs[0]? := hf 0 _ rfl
  have g1 : DataW.trod enc Try.prog w 0 spare held n 58 [c2, c3] = xs[1]? := hf 1 _ rfl
  rw [List.getElem?_eq_getElem (by omega)] at g0 g1
  obtain ⟨a, b, h0, ba, bb⟩ := open_spot _ _ _ _ g0
  obtain ⟨a', b', h1, ba', bb'⟩ := open_spot _ _ _ _ g1
  simp only [List.cons.injEq, and_true] at h0 h1
  obtain ⟨rfl, rfl⟩ := h0
  obtain ⟨rfl, rfl⟩ := h1
  exact ⟨⟨a, b, a', b'⟩, fun q o hr => ⟨hr, ba, bb, ba', bb'⟩⟩
set_option maxRecDepth 4000 in
theorem open_query (fuel : Nat) (cs : List Value) (d : DataW H) (ps : List MemPlace) (h : DataW.trod enc Try.prog w 0 spare held fuel 79 cs = some (d, ps)) : ∃ q : Qr, ∀ b o, w.rangeAt b o cs → QAt w q b o := by
  obtain ⟨xs, n, rfl, -, hlen, hxl, hf⟩ := DataW.trod_struct Try.underlying79 h
  rw [show Try.prog.cellsOf 79 = 5 from by kernel_rfl] at hlen
  match cs, hlen with
  | [c0, c1, c2, c3, c4], _ =>
  have hxl : xs.length = 2 := hxl
  have g0 : DataW.trod enc Try.prog w 0 spare held n 9 [c0] = xs[0]? := hf 0 _ rfl
  have g1 : DataW.trod enc Try.prog w 0 spare held n 31 [c1, c2, c3, c4] = xs[1]? := hf 1 _ rfl
  rw [List.getElem?_eq_getElem (by omega)] at g0 g1
  obtain ⟨s, h0, -, hs⟩ := DataW.trod_string Try.underlying9 g0
  obtain ⟨t, ht⟩ := open_term _ _ _ _ g1
  simp only [List.cons.injEq, and_true] at h0
  subst h0
  refine ⟨(⟨s, hs⟩, t), fun b o hr => ⟨by simpa using hr 0 _ rfl, ht.at fun j v hjv => ?_⟩⟩
  have := hr (j + 1) v (by simpa using hjv)
  rwa [show o + (j + 1) = o + 1 + j from by omega] at this
theorem qsAt_of {b : Nat} : ∀ (l : List Qr) (o : Nat), (∀ i (h : i < l.length), QAt w (l[i]) b (o + i * 5)) → QsAt w l b o
  | [], _, _ => trivial
  | q :: qs, o, hq => ⟨by have := hq 0 (by simp); simpa using this, qsAt_of qs (o + 5) fun i hi => by
    have := hq (i + 1) (by simpa using hi)
    rw [List.getElem_cons_succ] at this
    rwa [show o + (i + 1) * 5 = o + 5 + i * 5 from by omega] at this⟩
theorem qs_of {l : List Qr} {v : Value} (h : SlOf QAt 5 w l v) : Qs w l v := by
  obtain ⟨p, len, cap, rfl, h1, h2, h3, h4⟩ := h
  exact ⟨p, len, cap, rfl, h1, h2, h3, h4.imp id fun ⟨b, o, hp, hq⟩ => ⟨b, o, hp, qsAt_of l o hq⟩⟩
set_option maxRecDepth 4000 in
theorem open_policy (fuel : Nat) (cs : List Value) (d : DataW H) (ps : List MemPlace) (h : DataW.trod enc Try.prog w 0 spare held fuel 34 cs = some (d, ps)) : ∃ (t : Tm) (qs : List Qr), PVal w t qs (.agg cs.toArray) := by
  obtain ⟨xs, n, rfl, -, hlen, hxl, hf⟩ := DataW.trod_struct Try.underlying34 h
  rw [show Try.prog.cellsOf 34 = 5 from by kernel_rfl] at hlen
  match cs, hlen with
  | [c0, c1, c2, c3, c4], _ =>
  have hxl : xs.length = 2 := hxl
  have g0 : DataW.trod enc Try.prog w 0 spare held n 31 [c0, c1, c2, c3] = xs[0]? := hf 0 _ rfl
  have g1 : DataW.trod enc Try.prog w 0 spare held n 32 [c4] = xs[1]? := hf 1 _ rfl
  rw [List.getElem?_eq_getElem (by omega)] at g0 g1
  obtain ⟨t, ht⟩ := open_term _ _ _ _ g0
  obtain ⟨qs, hq⟩ := open_slice Try.underlying32 (k := 5) (by kernel_rfl) (by omega) QAt n (fun m _ cs d ps h => open_query m cs d ps h) c4 _ _ g1
  have ht' := ht
  obtain ⟨cs', he, s, rfl, -, -, -, p, len, cap, rfl, -⟩ := ht
  simp at he
  obtain ⟨rfl, rfl, rfl, rfl⟩ := he
  exact ⟨t, qs, p, len, cap, c4, rfl, ht', qs_of hq⟩
end

theorem recP : Try.prog.readableRec 34 = true := by kernel_rfl
theorem rowP : (34 : TypeId) < Try.prog.types.size := of_decide_eq_true (by kernel_rfl)
theorem recW : Try.prog.readableRec 41 = true := by kernel_rfl
theorem rowW : (41 : TypeId) < Try.prog.types.size := of_decide_eq_true (by kernel_rfl)
section
variable {H : Type} {enc : TypeId × Value → H} {base : Nat}
set_option maxRecDepth 4000 in
theorem policy_val {W : World} {v : Value} {d : DataW H} {ps : List MemPlace} (ho : Value.okWide Try.prog W .any base 34 v) (h : DataW.Trod enc Try.prog W 0 (fun _ => true) true 34 v d ps) : ∃ (t : Tm) (qs : List Qr), PVal W t qs v := by
  obtain ⟨cs, rfl, -⟩ := okWide_struct Try.underlying34 ho
  obtain ⟨fuel, hf⟩ := h
  obtain ⟨t, qs, ht⟩ := open_policy fuel _ d ps hf
  exact ⟨t, qs, by simpa [Value.cells] using ht⟩
set_option maxRecDepth 4000 in
theorem wires_val {W : World} {v : Value} {d : DataW H} {ps : List MemPlace} (ho : Value.okWide Try.prog W .any base 41 v) (h : DataW.Trod enc Try.prog W 0 (fun _ => true) true 41 v d ps) : ∃ l : List WireD, SlOf WAt 4 W l v := by
  obtain ⟨fuel, hf⟩ := h
  have hc : v.cells = #[v] := by
    obtain ⟨a, len, cap, rfl⟩ := okWide_slice Try.underlying41 ho
    rfl
  rw [hc] at hf
  exact open_slice Try.underlying41 (k := 4) (by kernel_rfl) (by omega) WAt fuel (fun m _ cs d ps h => open_wire m cs d ps h) v _ _ hf
theorem stays_P {W W' : World} {v : Value} {d : DataW H} {ps : List MemPlace} (sp : Nat → Bool) (h : DataW.Trod enc Try.prog W 0 (fun _ => true) true 34 v d ps) (hb : Below W.heap.size W W') (hlt : ∀ x ∈ ps, x.block < W.heap.size) (hs : ∀ x ∈ ps, sp x.block = true) :
    DataW.Trod enc Try.prog W' 0 sp true 34 v d ps := WideElems.Trod_stays laidL recP rowP h (fun x hx => hb.same (hlt x hx)) hs
theorem stays_W {W W' : World} {v : Value} {d : DataW H} {ps : List MemPlace} (sp : Nat → Bool) (h : DataW.Trod enc Try.prog W 0 (fun _ => true) true 41 v d ps) (hb : Below W.heap.size W W') (hlt : ∀ x ∈ ps, x.block < W.heap.size) (hs : ∀ x ∈ ps, sp x.block = true) :
    DataW.Trod enc Try.prog W' 0 sp true 41 v d ps := WideElems.Trod_stays laidL recW rowW h (fun x hx => hb.same (hlt x hx)) hs
end
def zP : Value := .agg #[.int .i8 0, .int .i8 0, .int .u64 0, .slice none 0 0, .slice none 0 0]
end Go.Proofs.Ytddeelepaiklgaa

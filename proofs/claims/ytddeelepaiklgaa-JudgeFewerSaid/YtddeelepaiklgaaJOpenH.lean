/- Hops, and slices of hops and of policies, out of their data. -/
import Derived.Test.YtddeelepaiklgaaJOpen
import Derived.Test.YtddeelepaiklgaaJTrace
namespace Go.Proofs.Ytddeelepaiklgaa
open Go.ChangeShapes Go.WideShapes Go.ChangeAt Go.RowKit Go.Deep

def RAt (w : World) (x : Hdr) (b o : Nat) : Prop := w.rangeAt b o x.cs.toList
theorem rangeAt_flat {w : World} {b : Nat} : ∀ (l : List Hdr) (o : Nat), (∀ i (h : i < l.length), RAt w (l[i]) b (o + i * 11)) → w.rangeAt b o (flatH l)
  | [], _, _ => fun j v hv => by simp [flatH] at hv
  | x :: xs, o, h => by
    have h0 := h 0 (by simp)
    have ih := rangeAt_flat xs (o + 11) fun i hi => by
      have := h (i + 1) (by simpa using hi)
      rw [List.getElem_cons_succ] at this
      rwa [show o + (i + 1) * 11 = o + 11 + i * 11 from by omega] at this
    intro j v hv
    have hx : (flatH (x :: xs)) = x.cs.toList ++ flatH xs := by simp [flatH]
    rw [hx] at hv
    by_cases hj : j < 11
    · rw [List.getElem?_append_left (by rw [x.len_cs]; exact hj)] at hv
      have := h0 j v hv
      simpa using this
    · rw [List.getElem?_append_right (by rw [x.len_cs]; omega), x.len_cs] at hv
      have := ih (j - 11) v hv
      rwa [show o + 11 + (j - 11) = o + j from by omega] at this
theorem hsl_of {w : World} {l : List Hdr} {v : Value} (h : SlOf RAt 11 w l v) : HSl w 0 l v := by
  obtain ⟨p, len, cap, rfl, h1, h2, h3, h4⟩ := h
  exact ⟨p, len, cap, rfl, h1, h4.imp id fun ⟨b, o, hp, hr⟩ => ⟨b, o, hp, Nat.zero_le _, rangeAt_flat l o hr⟩⟩
/-- a hop that came in -/
def HopF (w : World) (h : HopD) (v : Value) : Prop := ∃ ov, v = .agg (hopCs h.step h.pol h.x ov).toArray ∧ SlOf RAt 11 w h.out ov ∧ -9223372036854775808 ≤ h.pol ∧ h.pol ≤ 9223372036854775807
theorem HopF.val {w : World} {h : HopD} {v : Value} (k : HopF w h v) : HopVal w h.step h.pol h.x h.out v := by
  obtain ⟨ov, rfl, hs, -⟩ := k
  refine ⟨ov, rfl, hsl_of hs, ?_⟩
  obtain ⟨p, len, cap, rfl, h1, h2, h3, -⟩ := hs
  omega
section
variable {H : Type} {enc : TypeId × Value → H} {w : World} {spare : Nat → Bool} {held : Bool}
set_option maxRecDepth 4000 in
theorem open_hop (fuel : Nat) (cs : List Value) (d : DataW H) (ps : List MemPlace) (h : DataW.trod enc Try.prog w 0 spare held fuel 27 cs = some (d, ps)) : ∃ x : HopD, HopF w x (.agg cs.toArray) := by
  obtain ⟨xs, n, rfl, -, hlen, hxl, hf⟩ := DataW.trod_struct Try.underlying27 h
  rw [show Try.prog.cellsOf 27 = 14 from by kernel_rfl] at hlen
  match cs, hlen with
  | [c0, c1, c2, c3, c4, c5, c6, c7, c8, c9, c10, c11, c12, c13], _ =>
  have hxl : xs.length = 4 := hxl
  have g0 : DataW.trod enc Try.prog w 0 spare held n 3 [c0] = xs[0]? := hf 0 _ rfl
  have g1 : DataW.trod enc Try.prog w 0 spare held n 3 [c1] = xs[1]? := hf 1 _ rfl
  have g2 : DataW.trod enc Try.prog w 0 spare held n 24 [c2, c3, c4, c5, c6, c7, c8, c9, c10, c11, c12] = xs[2]? := hf 2 _ rfl
  have g3 : DataW.trod enc Try.prog w 0 spare held n 25 [c13] = xs[3]? := hf 3 _ rfl
  rw [List.getElem?_eq_getElem (by omega)] at g0 g1 g2 g3
  obtain ⟨v0, h0, -, w0⟩ := DataW.trod_int Try.underlying3 g0
  obtain ⟨v1, h1, -, w1⟩ := DataW.trod_int Try.underlying3 g1
  obtain ⟨x, hx⟩ := open_hdr _ _ _ _ g2
  obtain ⟨out, ho⟩ := open_slice Try.underlying25 (k := 11) (by kernel_rfl) (by omega) RAt n (fun m _ cs d ps h => by
    obtain ⟨x, hx⟩ := open_hdr m cs d ps h
    exact ⟨x, fun b o hr => by rw [hx] at hr; exact hr⟩) c13 _ _ g3
  simp only [List.cons.injEq, and_true] at h0 h1
  subst h0 h1
  simp [Lit.wf, IntKind.min, IntKind.max, IntKind.bits, IntKind.signed] at w0 w1
  refine ⟨⟨v0, v1, x, out⟩, c13, ?_, ho, by show _ ≤ v1; omega, by show v1 ≤ _; omega⟩
  congr 2
  show _ = [Value.int .i64 v0, .int .i64 v1] ++ (x.cs.toList ++ [c13])
  rw [← hx]
  rfl
theorem hopF_at {w : World} {h : HopD} {cs : List Value} (k : HopF w h (.agg cs.toArray)) : ∀ b o, w.rangeAt b o cs → HAt w h b o := by
  obtain ⟨ov, he, hs, h1, h2⟩ := k
  have he : cs = hopCs h.step h.pol h.x ov := by simpa using he
  intro b o hr
  rw [he] at hr
  refine ⟨ov, hr, hsl_of hs, ?_, h1, h2⟩
  obtain ⟨p, len, cap, rfl, h1, h2, h3, -⟩ := hs
  omega
theorem polF_at {w : World} {t : Tm} {qs : List Qr} {cs : List Value} (k : PVal w t qs (.agg cs.toArray)) : ∀ b o, w.rangeAt b o cs → PAt w (t, qs) b o := by
  obtain ⟨p, len, cap, qv, he, h1, h2⟩ := k
  have he : cs = [.int .i8 t.op, .int .i8 t.fld, .int .u64 t.n, .slice p len cap, qv] := by simpa using he
  intro b o hr
  rw [he] at hr
  exact ⟨p, len, cap, qv, hr, h1, h2⟩
end
theorem recHop : Try.prog.readableRec 27 = true := by kernel_rfl
theorem rowHop : (27 : TypeId) < Try.prog.types.size := of_decide_eq_true (by kernel_rfl)
theorem recHops : Try.prog.readableRec 37 = true := by kernel_rfl
theorem rowHops : (37 : TypeId) < Try.prog.types.size := of_decide_eq_true (by kernel_rfl)
theorem recPs : Try.prog.readableRec 38 = true := by kernel_rfl
theorem rowPs : (38 : TypeId) < Try.prog.types.size := of_decide_eq_true (by kernel_rfl)
theorem rowInt : (3 : TypeId) < Try.prog.types.size := of_decide_eq_true (by kernel_rfl)
theorem recInt : Try.prog.readableRec 3 = true := by kernel_rfl
section
variable {H : Type} {enc : TypeId × Value → H} {base : Nat}
set_option maxRecDepth 4000 in
theorem hop_val {W : World} {v : Value} {d : DataW H} {ps : List MemPlace} (ho : Value.okWide Try.prog W .any base 27 v) (h : DataW.Trod enc Try.prog W 0 (fun _ => true) true 27 v d ps) : ∃ x : HopD, HopF W x v := by
  obtain ⟨cs, rfl, -⟩ := okWide_struct Try.underlying27 ho
  obtain ⟨fuel, hf⟩ := h
  obtain ⟨x, hx⟩ := open_hop fuel _ d ps hf
  exact ⟨x, by simpa [Value.cells] using hx⟩
set_option maxRecDepth 4000 in
theorem hops_val {W : World} {v : Value} {d : DataW H} {ps : List MemPlace} (ho : Value.okWide Try.prog W .any base 37 v) (h : DataW.Trod enc Try.prog W 0 (fun _ => true) true 37 v d ps) : ∃ l : List HopD, SlOf HAt 14 W l v := by
  obtain ⟨fuel, hf⟩ := h
  have hc : v.cells = #[v] := by
    obtain ⟨a, len, cap, rfl⟩ := okWide_slice Try.underlying37 ho
    rfl
  rw [hc] at hf
  exact open_slice Try.underlying37 (k := 14) (by kernel_rfl) (by omega) HAt fuel (fun m _ cs d ps h => by
    obtain ⟨x, hx⟩ := open_hop m cs d ps h
    exact ⟨x, hopF_at hx⟩) v _ _ hf
set_option maxRecDepth 4000 in
theorem policies_val {W : World} {v : Value} {d : DataW H} {ps : List MemPlace} (ho : Value.okWide Try.prog W .any base 38 v) (h : DataW.Trod enc Try.prog W 0 (fun _ => true) true 38 v d ps) : ∃ l : List PolD, SlOf PAt 5 W l v := by
  obtain ⟨fuel, hf⟩ := h
  have hc : v.cells = #[v] := by
    obtain ⟨a, len, cap, rfl⟩ := okWide_slice Try.underlying38 ho
    rfl
  rw [hc] at hf
  exact open_slice Try.underlying38 (k := 5) (by kernel_rfl) (by omega) PAt fuel (fun m _ cs d ps h => by
    obtain ⟨t, qs, hx⟩ := open_policy m cs d ps h
    exact ⟨(t, qs), polF_at hx⟩) v _ _ hf
set_option maxRecDepth 4000 in
theorem int_val {W : World} {v : Value} (ho : Value.okWide Try.prog W .any base 3 v) : ∃ n : Int, v = .int .i64 n ∧ -9223372036854775808 ≤ n ∧ n ≤ 9223372036854775807 := by
  obtain ⟨n, rfl⟩ := okWide_int Try.underlying3 ho
  simp only [Value.okWide, Try.underlying3] at ho
  have hw := ho.2
  refine ⟨n, rfl, ?_⟩
  simp [IntKind.has, IntKind.min, IntKind.max, IntKind.bits, IntKind.signed] at hw
  omega
theorem stays_Hop {W W' : World} {v : Value} {d : DataW H} {ps : List MemPlace} (sp : Nat → Bool) (h : DataW.Trod enc Try.prog W 0 (fun _ => true) true 27 v d ps) (hb : Below W.heap.size W W') (hlt : ∀ x ∈ ps, x.block < W.heap.size) (hs : ∀ x ∈ ps, sp x.block = true) :
    DataW.Trod enc Try.prog W' 0 sp true 27 v d ps := WideElems.Trod_stays laidL recHop rowHop h (fun x hx => hb.same (hlt x hx)) hs
theorem stays_Hops {W W' : World} {v : Value} {d : DataW H} {ps : List MemPlace} (sp : Nat → Bool) (h : DataW.Trod enc Try.prog W 0 (fun _ => true) true 37 v d ps) (hb : Below W.heap.size W W') (hlt : ∀ x ∈ ps, x.block < W.heap.size) (hs : ∀ x ∈ ps, sp x.block = true) :
    DataW.Trod enc Try.prog W' 0 sp true 37 v d ps := WideElems.Trod_stays laidL recHops rowHops h (fun x hx => hb.same (hlt x hx)) hs
theorem stays_Ps {W W' : World} {v : Value} {d : DataW H} {ps : List MemPlace} (sp : Nat → Bool) (h : DataW.Trod enc Try.prog W 0 (fun _ => true) true 38 v d ps) (hb : Below W.heap.size W W') (hlt : ∀ x ∈ ps, x.block < W.heap.size) (hs : ∀ x ∈ ps, sp x.block = true) :
    DataW.Trod enc Try.prog W' 0 sp true 38 v d ps := WideElems.Trod_stays laidL recPs rowPs h (fun x hx => hb.same (hlt x hx)) hs
theorem stays_Int {W W' : World} {v : Value} {d : DataW H} {ps : List MemPlace} (sp : Nat → Bool) (h : DataW.Trod enc Try.prog W 0 (fun _ => true) true 3 v d ps) (hb : Below W.heap.size W W') (hlt : ∀ x ∈ ps, x.block < W.heap.size) (hs : ∀ x ∈ ps, sp x.block = true) :
    DataW.Trod enc Try.prog W' 0 sp true 3 v d ps := WideElems.Trod_stays laidL recInt rowInt h (fun x hx => hb.same (hlt x hx)) hs
end
def zHop : Value := .agg #[.int .i64 0, .int .i64 0, .int .u64 0, .int .u64 0, .int .u64 0, .int .u64 0, .int .u64 0, .int .u64 0, .int .u64 0, .int .u64 0, .int .u64 0, .int .u64 0, .int .u64 0, .slice none 0 0]
end Go.Proofs.Ytddeelepaiklgaa

/- The arguments: a term and a header out of their data. -/
import Derived.Test.YtjjbdbklbghlhaaGreatDoorMA
import Derived.Test.YtjjbdbklbghlhaaGreatDoorRows
import Derived.ProofKit
import Derived.Deep.Slices
import Derived.OpenShut
import Derived.Deep.MidRow
import Derived.Below
import Derived.ChangeSame
import Derived.WideKeyArgs
import Derived.Maps.AppendAt
import Derived.Sort.Grow
namespace Go.Proofs.YtjjbdbklbghlhaaGreatDoor
open Go.ChangeShapes Go.WideShapes Go.ChangeAt Go.RowKit Go.Deep
set_option linter.unusedSimpArgs false

section
variable {H : Type} {enc : TypeId × Value → H} {w : World} {spare : Nat → Bool} {held : Bool}

theorem cells_one {l : List Value} {i : Nat} (h : i < l.length) : (l.drop i).take 1 = [l[i]] := by
 rw [List.drop_eq_getElem_cons h]; rfl

theorem cell_nospot {a : Addr} {v : Value} (h : w.cell? a = some v) : a = ⟨a.block, a.off, none⟩ := by
 obtain ⟨b, o, sp⟩ := a
 cases sp with
 | none => rfl
 | some s =>
  exfalso
  simp only [World.cell?] at h
  split at h
  ·simp at h
  ·cases h
theorem maxLen_eq : maxLen = 9223372036854775807 := by decide

set_option maxRecDepth 4000 in
theorem open_term : ∀ (fuel : Nat) (cs : List Value) (d : DataW H) (ps : List MemPlace), DataW.trod enc Tryz.prog w 0 spare held fuel 26 cs = some (d, ps) → ∃ t : Tm, t.Val w (.agg cs.toArray) := by
 intro fuel
 induction fuel using Nat.strongRecOn with | _ fuel ih
 intro cs d ps h
 obtain ⟨xs, n, rfl, -, hlen, hxl, hf⟩ := DataW.trod_struct Tryz.underlying26 h
 rw [show Tryz.prog.cellsOf 26 = 4 from by kernel_rfl] at hlen
 match cs, hlen with
 | [c0, c1, c2, c3], _ =>
 have hxl : xs.length = 4 := hxl
 have g0 : DataW.trod enc Tryz.prog w 0 spare held n 22 [c0] = xs[0]? := hf 0 _ rfl
 have g1 : DataW.trod enc Tryz.prog w 0 spare held n 22 [c1] = xs[1]? := hf 1 _ rfl
 have g2 : DataW.trod enc Tryz.prog w 0 spare held n 23 [c2] = xs[2]? := hf 2 _ rfl
 have g3 : DataW.trod enc Tryz.prog w 0 spare held n 24 [c3] = xs[3]? := hf 3 _ rfl
 rw [List.getElem?_eq_getElem (by omega)] at g0 g1 g2 g3
 obtain ⟨v0, h0, -, w0⟩ := DataW.trod_int Tryz.underlying22 g0
 obtain ⟨v1, h1, -, w1⟩ := DataW.trod_int Tryz.underlying22 g1
 obtain ⟨v2, h2, -, w2⟩ := DataW.trod_int Tryz.underlying23 g2
 simp only [List.cons.injEq, and_true] at h0 h1 h2
 subst h0 h1 h2
 have b0 : -128 ≤ v0 ∧ v0 ≤ 127 := by
  simp [Lit.wf, IntKind.min, IntKind.max, IntKind.bits, IntKind.signed] at w0; omega
 have b1 : -128 ≤ v1 ∧ v1 ≤ 127 := by
  simp [Lit.wf, IntKind.min, IntKind.max, IntKind.bits, IntKind.signed] at w1; omega
 have b2 : 0 ≤ v2 ∧ v2 ≤ 18446744073709551615 := by
  simp [Lit.wf, IntKind.min, IntKind.max, IntKind.bits, IntKind.signed] at w2; omega
 rcases DataW.trod_slice Tryz.underlying24 g3 with ⟨h3, -⟩ | ⟨a, len, cap, elems, rest, m, rfl, h3, -, -, hlc, hcm, hel, hat, -⟩
 ·simp only [List.cons.injEq, and_true] at h3
  subst h3
  exact ⟨.mk v0 v1 v2 [], _, rfl, _, rfl, b0, b1, b2, _, _, _, rfl, rfl, Nat.le_refl _, by omega, .inl rfl⟩
 ·simp only [List.cons.injEq, and_true] at h3
  subst h3
  rw [maxLen_eq] at hcm
  have hC4 : Tryz.prog.cellsOf 26 = 4 := by kernel_rfl
  have ha : 0 < len → a = ⟨a.block, a.off, none⟩ := fun h0 => by
   have h0' := hat 0 h0
   rw [List.getElem?_eq_getElem (by omega), Option.bind_eq_some_iff] at h0'
   obtain ⟨cs0, hc0, -⟩ := h0'
   obtain ⟨-, hcl0, hce0⟩ := World.cells?_some hc0
   rw [hC4] at hcl0 hce0
   have h00 := hce0 0 (by omega)
   rw [List.getElem?_eq_getElem (by omega)] at h00
   simpa [Addr.add] using cell_nospot h00
  have hk : ∀ i, i < len → ∃ t : Tm, t.At w a.block (a.off + i * 4) := by
   intro i hi
   have hi' := hat i hi
   rw [List.getElem?_eq_getElem (by omega), Option.bind_eq_some_iff] at hi'
   obtain ⟨cs', hc, ht⟩ := hi'
   obtain ⟨t, hv⟩ := ih m (by omega) cs' _ _ ht
   obtain ⟨-, hcl, hce⟩ := World.cells?_some hc
   rw [hC4] at hcl hce
   refine ⟨t, hv.at (fun j v hjv => ?_)⟩
   have hjv' : cs'[j]? = some v := by simpa using hjv
   have hj : j < 4 := by
    have := (List.getElem?_eq_some_iff.1 hjv').1
    omega
   have := hce j hj
   rw [ha (by omega), Addr.add_mid, Addr.add_mid] at this
   rw [this]
   exact hjv'
  let ks : List Tm := List.ofFn fun i : Fin len => Classical.choose (hk i.1 i.2)
  have hkl : ks.length = len := by simp [ks]
  have hall : Tm.AllAt w ks a.block a.off := Tm.AllAt_of fun i hi => by
   have hi' : i < len := by omega
   have e : ks[i] = Classical.choose (hk i hi') := by simp [ks]
   rw [e]
   exact Classical.choose_spec (hk i hi')
  refine ⟨.mk v0 v1 v2 ks, _, rfl, _, rfl, b0, b1, b2, some a, len, cap, rfl, hkl.symm, hlc, hcm, ?_⟩
  by_cases hz : len = 0
  ·exact .inl (List.length_eq_zero_iff.1 (hkl.trans hz))
  ·exact .inr ⟨a.block, a.off, by rw [← ha (by omega)], hall⟩

theorem open_hdr (fuel : Nat) (cs : List Value) (d : DataW H) (ps : List MemPlace) (h : DataW.trod enc Tryz.prog w 0 spare held fuel 49 cs = some (d, ps)) : ∃ x : Hdr, cs = x.cs.toList := by
 obtain ⟨xs, m, rfl, -, hlen, hxl, hf⟩ := DataW.trod_array Tryz.underlying49 h
 rw [show Tryz.prog.cellsOf 49 = 11 from by kernel_rfl] at hlen
 have hi : ∀ i (h : i < 11), ∃ n : UInt64, cs[i]'(by omega) = .int .u64 (n.toNat : Int) := by
  intro i hi
  have g := hf i hi
  have hC1 : Tryz.prog.cellsOf 23 = 1 := by kernel_rfl
  rw [hC1, Nat.mul_one, cells_one (by omega), List.getElem?_eq_getElem (by omega)] at g
  obtain ⟨v, hv, -, wv⟩ := DataW.trod_int Tryz.underlying23 g
  simp only [List.cons.injEq, and_true] at hv
  simp [Lit.wf, IntKind.min, IntKind.max, IntKind.bits, IntKind.signed] at wv
  refine ⟨UInt64.ofNat v.toNat, ?_⟩
  rw [hv]
  have e : (UInt64.ofNat v.toNat).toNat = v.toNat := by rw [UInt64.toNat_ofNat']; omega
  rw [e, Int.toNat_of_nonneg (by omega)]
 refine ⟨Vector.ofFn fun i : Fin 11 => Classical.choose (hi i.1 i.2), ?_⟩
 apply List.ext_getElem
 ·simp [Hdr.size_cs, hlen]
 ·intro i h1 h2
  have := Classical.choose_spec (hi i (by omega))
  rw [this]
  simp [Hdr.cs, Hdr.l]
end
end Go.Proofs.YtjjbdbklbghlhaaGreatDoor
/- The rows' last steps. -/
namespace Go.Proofs.YtjjbdbklbghlhaaGreatDoor
open Go.ChangeShapes Go.WideShapes Go.ChangeAt Go.RowKit Go.Deep
set_option linter.unusedSimpArgs false

theorem ownL : ownKnob Tryz.prog.godebug = none := by kernel_rfl
theorem laidL : laidOutB Tryz.prog = true := by kernel_rfl
theorem recT : Tryz.prog.readableRec 26 = true := by kernel_rfl
theorem rowT : (26 : TypeId) < Tryz.prog.types.size := of_decide_eq_true (by kernel_rfl)
section
variable {H : Type} {enc : TypeId × Value → H} {base : Nat}

set_option maxRecDepth 4000 in
theorem term_val {W : World} {v : Value} {d : DataW H} {ps : List MemPlace} (ho : Value.okWide Tryz.prog W .any base 26 v) (h : DataW.Trod enc Tryz.prog W 0 (fun _ => true) true 26 v d ps) : ∃ t : Tm, t.Val W v := by
 obtain ⟨cs, rfl, -⟩ := okWide_struct Tryz.underlying26 ho
 obtain ⟨fuel, hf⟩ := h
 obtain ⟨t, ht⟩ := open_term fuel _ d ps hf
 exact ⟨t, by simpa [Value.cells] using ht⟩
theorem stays_T {W W' : World} {v : Value} {d : DataW H} {ps : List MemPlace} (sp : Nat → Bool) (h : DataW.Trod enc Tryz.prog W 0 (fun _ => true) true 26 v d ps) (hb : Below W.heap.size W W') (hlt : ∀ x ∈ ps, x.block < W.heap.size) (hs : ∀ x ∈ ps, sp x.block = true) :
  DataW.Trod enc Tryz.prog W' 0 sp true 26 v d ps := WideElems.Trod_stays laidL recT rowT h (fun x hx => hb.same (hlt x hx)) hs
theorem post_below {P : Program} {f : Func} {s : ChangeSpec} {apart fresh handsOn again : Bool} {W W' : World} {args : Array Value} {v : Value} {ds gs : List (DataW H)} {before pa pv : List MemPlace}
    (hW : DataW.Whole enc P f.params.toList s.vars apart W args.toList ds gs before)
    (hres : ∀ (b : Nat) (sp : Nat → Bool) (hd : Bool), DataW.TrodAll enc P W' b sp hd f.resultTypes.toList (v.resultList f.resultTypes.size) (s.fn H (ds ++ gs)).results [])
    (hargs : ∀ sp : Nat → Bool, (∀ p ∈ before, sp p.block = true) → DataW.TrodAll enc P W' 0 sp true f.params.toList args.toList (s.fn H (ds ++ gs)).args pa)
    (hvars : ∀ sp : Nat → Bool, (∀ p ∈ before, sp p.block = true) → DataW.TrodVars enc P W' sp s.vars (s.fn H (ds ++ gs)).vars pv)
    (hps : before = pa ++ pv) (hb : Below W.heap.size W W')
    (hok : ∀ (j : Nat) (t : TypeId) (r : Value), f.resultTypes[j]? = some t → (v.resultList f.resultTypes.size)[j]? = some r → Value.okWide P W' .any 0 t r) :
    s.post enc P f apart fresh handsOn again W args v W' := by
  have hlt : ∀ p ∈ before, p.block < W.heap.size := fun p hp => hW.lt p hp
  have hold : ∀ p ∈ before, (fun b => decide (b < W.heap.size)) p.block = true := fun p hp => by simpa using hlt p hp
  refine ⟨ds, gs, before, [], pa, pv, hW, hres _ _ _, hargs _ hold, hvars _ hold, World.keptBut_mono (fun p hp => ⟨hp, ?_⟩) (hb.frame (· ∈ before)), fun _ => ?_⟩
  · rw [hps, List.mem_append] at hp
    exact Or.inr hp
  · obtain ⟨_, _, _, _, _, hz, hn⟩ := hW
    refine ⟨hok, _, _, ([] ++ pa) ++ pv, ⟨[] ++ pa, pv, trodAll_append (hargs _ (fun _ _ => rfl)) (hres _ _ _), hvars _ (fun _ _ => rfl), rfl, ?_, ?_⟩, ?_⟩
    · intro b off hp
      have hin : MemPlace.cell b off ∈ before := by rw [hps]; simpa using hp
      rw [hb.frozen (hlt _ hin)]
      exact hz b off hin
    · intro ha
      have := hn ha
      rw [hps] at this
      simpa using this
    · intro p hp _
      rw [hps]
      simpa using hp
end
end Go.Proofs.YtjjbdbklbghlhaaGreatDoor
/- The arguments of law 20 out of their data. -/
namespace Go.Proofs.YtjjbdbklbghlhaaGreatDoor
open Go.ChangeShapes Go.WideShapes Go.ChangeAt Go.RowKit Go.Deep
set_option linter.unusedSimpArgs false

section
variable {H : Type} {enc : TypeId × Value → H} {w : World} {spare : Nat → Bool} {held : Bool}
end

section
variable {H : Type} {enc : TypeId × Value → H} {base : Nat}
end
end Go.Proofs.YtjjbdbklbghlhaaGreatDoor
/- Appends to a slice that the call owns, at any element type. -/
namespace Go.Proofs.YtjjbdbklbghlhaaGreatDoor
open Go.RowKit Go.Sort Go.Maps
set_option linter.unusedSimpArgs false

/-- an element's type -/
structure Elem (P : Program) (sl e : TypeId) (k bt : Nat) : Prop where
 und : P.underlying sl = some (.slice e)
 info : ∃ i z, P.info? e = some i ∧ i.zero = some z ∧ i.size = k ∧ i.bytes = bt ∧ z.cells.size = k
 pos : 0 < k
 szo : ∀ w, (Go.sizeOf e).run P w = .ok k w
 small : k ≤ 16777216

section
variable {P : Program} {sl e : TypeId} {k bt : Nat}
theorem run_append_zeroE (E : Elem P sl e k bt) (w : World) (ty : TypeId) (p q : Option Addr) (n c k' : Nat) (hn : n ≤ c) : (Builtin.append_ #[sl, sl] ty #[.slice p n c, .slice q 0 k']).run P w = .ok (.slice p n c) w := by
 have hs := E.szo w
 cases p <;> cases q <;> simp [Builtin.append_, run_underlying E.und, hs, Builtin.lenOf, Builtin.firstCells, hn, Result.andThen, loadCells, loadCellsFrom, storeCells]
theorem owns_form {w : World} {base n : Nat} {v : Value} {xs : List Value} (h : w.ownsRow base e k v n xs) : ∃ p c, v = .slice p n c ∧ n ≤ c ∧ c ≤ 9223372036854775807 := by
 rcases h.2 with ⟨rfl, h0⟩ | ⟨g, cap, cur, rfl, _, _, hn, hm, _⟩
 ·exact ⟨none, 0, by rw [h0], by omega, by omega⟩
 ·exact ⟨_, cap, rfl, hn, by simpa [maxLen] using hm⟩
theorem run_append_E (E : Elem P sl e k bt) (w : World) (ty : TypeId) (base : Nat) (v : Value) (n : Nat) (xs : List Value) (hown : w.ownsRow base e k v n xs)
  (q : Option Addr) (m c : Nat) (news : List Value) (hl : news.length = m * k) (hnews : m = 0 ∨ ∃ a, q = some a ∧ ∀ j u, news[j]? = some u → w.cell? (a.add j) = some u) (h1 : ∀ u ∈ news, u.oneCell' = true)
  (h63 : n + m ≤ 9223372036854775807) (hbytes : (n + m) * bt ≤ 140737488355328) (hbase : base ≤ w.heap.size) :
  ∃ v' w', (Builtin.append_ #[sl, sl] ty #[v, .slice q m c]).run P w = .ok v' w' ∧ w'.ownsRow base e k v' (n + m) (xs ++ news) ∧ w.grownBy w' v.ownBlock ∧ (v'.ownBlock = v.ownBlock ∨ v'.ownBlock = some w.heap.size) := by
 rcases Nat.eq_zero_or_pos m with h0 | hpos
 ·subst h0
  have hm : news = [] := List.length_eq_zero_iff.1 (by simpa using hl)
  subst hm
  obtain ⟨p, c', rfl, hc, -⟩ := owns_form hown
  exact ⟨_, _, run_append_zeroE E w ty p q n c' c hc, by simpa using hown, ⟨rfl, rfl, rfl, Nat.le_refl _, fun _ _ _ => rfl⟩, .inl rfl⟩
 ·obtain ⟨a, rfl, hn⟩ := hnews.resolve_left (by omega)
  obtain ⟨i0, z, hi0, hz0, hz1, hz2, hzs⟩ := E.info
  obtain ⟨v', w', hr, h2, h3, -, h5⟩ := run_append_own_at (P := P) w base sl ty e i0 z k bt E.und hi0 hz0 hz1 hz2 hzs E.pos v n xs hown a m c news hl hn h1 (by unfold maxLen; omega) hbytes hbase
  exact ⟨v', w', hr, h2, h3, h5⟩
theorem wpList_append_E (E : Elem P sl e k bt) {ops : Array Oper} {rest : List Oper} {o : Oper} {a : Act} {w : World} {Q : Exit → Act → World → Prop} (hgd : o.guard = none) (s x : Operand)
  (ho : o.op = .call { callee := .builtin .append, args := #[s, x], argTypes := #[sl, sl] }) (base : Nat) (v : Value) (n : Nat) (xs : List Value) (hs : a.eval s = v) (hown : w.ownsRow base e k v n xs)
  (q : Option Addr) (m c : Nat) (news : List Value) (hx : a.eval x = .slice q m c) (hl : news.length = m * k) (hnews : m = 0 ∨ ∃ a, q = some a ∧ ∀ j u, news[j]? = some u → w.cell? (a.add j) = some u) (h1 : ∀ u ∈ news, u.oneCell' = true)
  (h63 : n + m ≤ 9223372036854775807) (hbytes : (n + m) * bt ≤ 140737488355328) (hbase : base ≤ w.heap.size)
  (hK : ∀ v' w', w'.ownsRow base e k v' (n + m) (xs ++ news) → w.grownBy w' v.ownBlock → (v'.ownBlock = v.ownBlock ∨ v'.ownBlock = some w.heap.size) → wpList P ops Q rest (a.put o.dst v') w') : wpList P ops Q (o :: rest) a w := by
 obtain ⟨v', w', hr, h2, h3, h5⟩ := run_append_E E w o.type base v n xs hown q m c news hl hnews h1 h63 hbytes hbase
 refine wpList_plain hgd fun K hK' => ?_
 unfold Oper.wp execOp
 simp only [ho, resolve, invoke, builtin, Sem.run_bind, Sem.run_pure, Result.andThen_ok, List.map_toArray, List.map_cons, List.map_nil, hs, hx, hr]
 exact hK' _ _ (hK v' w' h2 h3 h5)
theorem step_append_E (E : Elem P sl e k bt) {ops : Array Oper} {o : Oper} {a : Act} {w : World} {K : Act → World → Prop} {Q : Exit → Act → World → Prop} {F : Prop} (hgd : o.guard = none) (s x : Operand)
  (ho : o.op = .call { callee := .builtin .append, args := #[s, x], argTypes := #[sl, sl] }) (base : Nat) (v : Value) (n : Nat) (xs : List Value) (hs : a.eval s = v) (hown : w.ownsRow base e k v n xs)
  (q : Option Addr) (m c : Nat) (news : List Value) (hx : a.eval x = .slice q m c) (hl : news.length = m * k) (hnews : m = 0 ∨ ∃ a, q = some a ∧ ∀ j u, news[j]? = some u → w.cell? (a.add j) = some u) (h1 : ∀ u ∈ news, u.oneCell' = true)
  (h63 : n + m ≤ 9223372036854775807) (hbytes : (n + m) * bt ≤ 140737488355328) (hbase : base ≤ w.heap.size)
  (h : ∀ v' w', w'.ownsRow base e k v' (n + m) (xs ++ news) → w.grownBy w' v.ownBlock → (v'.ownBlock = v.ownBlock ∨ v'.ownBlock = some w.heap.size) → K (a.put o.dst v') w') :
  if Region.wanted o (yielded ops a.tmps) = true then Oper.wp P o a w K Q else F := by
 have hw : Region.wanted o (yielded ops a.tmps) = true := by simp [Region.wanted, hgd]
 rw [if_pos hw]
 obtain ⟨v', w', hr, h2, h3, h5⟩ := run_append_E E w o.type base v n xs hown q m c news hl hnews h1 h63 hbytes hbase
 unfold Oper.wp execOp
 simp only [ho, resolve, invoke, builtin, Sem.run_bind, Sem.run_pure, Result.andThen_ok, List.map_toArray, List.map_cons, List.map_nil, hs, hx, hr]
 exact h v' w' h2 h3 h5
theorem owns_empty (w : World) : (w.alloc (.cells #[] e)).ownsRow w.heap.size e k (.slice (some ⟨w.heap.size, 0, none⟩) 0 0) 0 [] :=
 World.ownsRow_lit (base := w.heap.size) (e := e) (size := k) w #[] 0 (Nat.le_refl _) (by unfold maxLen; omega) (by simp)
theorem owns_ext {w w' : World} {base : Nat} {v : Value} {n : Nat} {xs : List Value} (h : w.ownsRow base e k v n xs) (hx : Ext w w') : w'.ownsRow base e k v n xs := by
 refine ⟨h.1, h.2.imp id fun ⟨g, cap, cur, hv, hb, hg, hn⟩ => ⟨g, cap, cur, hv, hb, ?_, hn⟩⟩
 rw [Below.block hx g (Array.getElem?_eq_some_iff.1 hg).1]; exact hg
theorem owns_lt {w : World} {base : Nat} {v : Value} {n : Nat} {xs : List Value} (h : w.ownsRow base e k v n xs) (i : Nat) (hi : v.ownBlock = some i) : base ≤ i ∧ i < w.heap.size := by
 rcases h.2 with ⟨rfl, h0⟩ | ⟨g, cap, cur, rfl, hb, hg, _⟩
 ·cases hi
 ·cases hi; exact ⟨hb, (Array.getElem?_eq_some_iff.1 hg).1⟩
/-- what a row of one's own holds, as a range -/
theorem owns_range {w : World} {base : Nat} {v : Value} {n : Nat} {xs : List Value} (h : w.ownsRow base e k v n xs) : (n = 0 ∧ xs = []) ∨ ∃ g c, v = .slice (some ⟨g, 0, none⟩) n c ∧ base ≤ g ∧ g < w.heap.size ∧ w.rangeAt g 0 xs := by
 rcases h.2 with ⟨rfl, h0⟩ | ⟨g, cap, cur, rfl, hb, hg, hn⟩
 ·refine .inl ⟨h0, List.length_eq_zero_iff.1 ?_⟩
  rw [h.1, h0, Nat.zero_mul]
 ·refine .inr ⟨g, cap, rfl, hb, (Array.getElem?_eq_some_iff.1 hg).1, fun j u hu => ?_⟩
  have := h.cells (g := g) rfl j u hu
  rwa [Addr.add_mid] at this
end

theorem elemA : Elem Tryz.prog 78 81 3 16 :=
 ⟨Tryz.underlying78, by obtain ⟨i, h1, h2, h3, h4⟩ := info_parts (show (Tryz.prog.info? 81).map (fun i => (i.zero, i.size, i.bytes)) = some (some (.agg #[.int .i8 0, .int .i8 0, .int .u64 0]), 3, 16) from by kernel_rfl); exact ⟨i, _, h1, h2, h3, h4, rfl⟩, by omega, fun w => by kernel_rfl, by omega⟩
theorem elemR : Elem Tryz.prog 40 78 1 24 :=
 ⟨Tryz.underlying40, by obtain ⟨i, h1, h2, h3, h4⟩ := info_parts (show (Tryz.prog.info? 78).map (fun i => (i.zero, i.size, i.bytes)) = some (some (.slice none 0 0), 1, 24) from by kernel_rfl); exact ⟨i, _, h1, h2, h3, h4, rfl⟩, by omega, fun w => by kernel_rfl, by omega⟩
theorem elemN : Elem Tryz.prog 39 42 5 56 :=
 ⟨Tryz.underlying39, by obtain ⟨i, h1, h2, h3, h4⟩ := info_parts (show (Tryz.prog.info? 42).map (fun i => (i.zero, i.size, i.bytes)) = some (some (.agg #[.int .i8 0, .int .u64 0, .int .i64 0, .int .i64 0, .slice none 0 0]), 5, 56) from by kernel_rfl); exact ⟨i, _, h1, h2, h3, h4, rfl⟩, by omega, fun w => by kernel_rfl, by omega⟩
end Go.Proofs.YtjjbdbklbghlhaaGreatDoor
/- The orders of settings and of rows. -/
namespace Go.Proofs.YtjjbdbklbghlhaaGreatDoor
open Go.RowKit Go.Sort
set_option linter.unusedSimpArgs false

def cmp1 (a b : Int) : Int := if a < b then -1 else if b < a then 1 else 0
def orI (x y : Int) : Int := if x = 0 then y else x
def cmpA (a b : AcD) : Int := orI (cmp1 a.f b.f) (cmp1 a.n b.n)
def cmpR : RowD → RowD → Int
 | [], [] => 0
 | [], _ :: _ => -1
 | _ :: _, [] => 1
 | a :: l, b :: m => if cmpA a b = 0 then cmpR l m else cmpA a b
theorem isNaN8_any (a : Int) (w : World) : Calls Tryz.prog 105 #[.int .i8 a] w fun e w' => e = .returned (.bool false) ∧ w = w' := by
 go_enter Tryz.func105, Tryz.ntmps105
 go_wp2_with fail
 go_ret
 exact ⟨rfl, rfl⟩
set_option maxHeartbeats 1000000 in
theorem cmp8_any (a b : Int) (w : World) : Calls Tryz.prog 68 #[.int .i8 a, .int .i8 b] w fun e w' => e = .returned (.int .i64 (cmp1 a b)) ∧ w = w' := by
 go_enter Tryz.func68, Tryz.ntmps68
 go_wp2_with fail
 refine (isNaN8_any a w).mono ?_
 rintro e w1 ⟨rfl, rfl⟩
 go_wp2_with fail
 refine (isNaN8_any b w).mono ?_
 rintro e w1 ⟨rfl, rfl⟩
 rcases Int.lt_trichotomy a b with h | h | h
 ·have HF := Hd (show cmp1 a b = -1 from by unfold cmp1; rw [if_pos h])
  go_wp2_with fail
  go_ret
  exact ⟨by rw [HF.out]; rfl, rfl⟩
 ·have HF := Hd (show cmp1 a b = 0 from by unfold cmp1; rw [if_neg (by omega), if_neg (by omega)])
  have h1 : ¬ a < b := by omega
  have h2 : ¬ b < a := by omega
  clear h
  go_wp2_with fail
  go_ret
  exact ⟨by rw [HF.out]; rfl, rfl⟩
 ·have HF := Hd (show cmp1 a b = 1 from by unfold cmp1; rw [if_neg (by omega), if_pos h])
  have h1 : ¬ a < b := by omega
  go_wp2_with fail
  go_ret
  exact ⟨by rw [HF.out]; rfl, rfl⟩

theorem isNaN64_any (a : Int) (w : World) : Calls Tryz.prog 106 #[.int .u64 a] w fun e w' => e = .returned (.bool false) ∧ w = w' := by
 go_enter Tryz.func106, Tryz.ntmps106
 go_wp2_with fail
 go_ret
 exact ⟨rfl, rfl⟩
set_option maxHeartbeats 1000000 in
theorem cmp64_any (a b : Int) (w : World) : Calls Tryz.prog 69 #[.int .u64 a, .int .u64 b] w fun e w' => e = .returned (.int .i64 (cmp1 a b)) ∧ w = w' := by
 go_enter Tryz.func69, Tryz.ntmps69
 go_wp2_with fail
 refine (isNaN64_any a w).mono ?_
 rintro e w1 ⟨rfl, rfl⟩
 go_wp2_with fail
 refine (isNaN64_any b w).mono ?_
 rintro e w1 ⟨rfl, rfl⟩
 rcases Int.lt_trichotomy a b with h | h | h
 ·have HF := Hd (show cmp1 a b = -1 from by unfold cmp1; rw [if_pos h])
  go_wp2_with fail
  go_ret
  exact ⟨by rw [HF.out]; rfl, rfl⟩
 ·have HF := Hd (show cmp1 a b = 0 from by unfold cmp1; rw [if_neg (by omega), if_neg (by omega)])
  have h1 : ¬ a < b := by omega
  have h2 : ¬ b < a := by omega
  clear h
  go_wp2_with fail
  go_ret
  exact ⟨by rw [HF.out]; rfl, rfl⟩
 ·have HF := Hd (show cmp1 a b = 1 from by unfold cmp1; rw [if_neg (by omega), if_pos h])
  have h1 : ¬ a < b := by omega
  go_wp2_with fail
  go_ret
  exact ⟨by rw [HF.out]; rfl, rfl⟩

set_option maxHeartbeats 2000000 in
theorem or_any (x y : Int) (b : Nat) (w : World) (c0 : w.cell? ⟨b, 0, none⟩ = some (.int .i64 x)) (c1 : w.cell? ⟨b, 1, none⟩ = some (.int .i64 y)) :
  Calls Tryz.prog 67 #[.slice (some ⟨b, 0, none⟩) 2 2] w fun e w' => e = .returned (.int .i64 (orI x y)) ∧ w = w' := by
 by_cases hx : x = 0
 ·have HF := Hd (show orI x y = y from if_pos hx)
  have hx1 : (x != 0) = false := by simpa using hx
  subst hx
  by_cases hy : y = 0
  ·subst hy
   go_enter Tryz.func67, Tryz.ntmps67
   go_wp2_with fail
   refine wp_loop_rounds 3 ?_
   rw [rounds_succ]
   go_wp2_with fail
   rw [rounds_succ]
   go_wp2_with fail
   rw [rounds_succ]
   go_wp2_with fail
   go_ret
   exact ⟨by rw [HF.out]; rfl, rfl⟩
  ·have hy1 : (y != 0) = true := by simpa using hy
   go_enter Tryz.func67, Tryz.ntmps67
   go_wp2_with fail
   refine wp_loop_rounds 2 ?_
   rw [rounds_succ]
   go_wp2_with fail
   rw [rounds_succ]
   go_wp2_with fail
   go_ret
   exact ⟨by rw [HF.out]; rfl, rfl⟩
 ·have HF := Hd (show orI x y = x from if_neg hx)
  have hx1 : (x != 0) = true := by simpa using hx
  go_enter Tryz.func67, Tryz.ntmps67
  go_wp2_with fail
  refine wp_loop_rounds 1 ?_
  rw [rounds_succ]
  go_wp2_with fail
  go_ret
  exact ⟨by rw [HF.out]; rfl, rfl⟩

set_option maxHeartbeats 4000000 in
set_option maxRecDepth 100000 in
theorem order1_any (a b : AcD) (w : World) :
  Calls Tryz.prog 141 #[.agg #[.int .i8 a.d, .int .i8 a.f, .int .u64 a.n], .agg #[.int .i8 b.d, .int .i8 b.f, .int .u64 b.n]] w fun e w' => e = .returned (.int .i64 (cmpA a b)) ∧ Grown w w' := by
 unfold cmpA
 obtain ⟨wA, hA⟩ : ∃ W : World, w.alloc (.cells #[.int .i8 a.d, .int .i8 a.f, .int .u64 a.n] 81) = W := ⟨_, rfl⟩
 have xA : Grown w wA := hA ▸ (Grown.refl w).alloc _
 have sA : wA.heap.size = w.heap.size + 1 := by rw [← hA, World.size_alloc]
 obtain ⟨wB, hB⟩ : ∃ W : World, wA.alloc (.cells #[.int .i8 b.d, .int .i8 b.f, .int .u64 b.n] 81) = W := ⟨_, rfl⟩
 have xB : Grown wA wB := hB ▸ (Grown.refl wA).alloc _
 have a1 : wA.cell? ⟨w.heap.size, 1, none⟩ = some (.int .i8 a.f) := by rw [← hA]; simp [go_sem]
 have a2 : wA.cell? ⟨w.heap.size, 2, none⟩ = some (.int .u64 a.n) := by rw [← hA]; simp [go_sem]
 have b1 : wB.cell? ⟨w.heap.size + 1, 1, none⟩ = some (.int .i8 b.f) := by rw [← hB, ← sA]; simp [go_sem]
 have b2 : wB.cell? ⟨w.heap.size + 1, 2, none⟩ = some (.int .u64 b.n) := by rw [← hB, ← sA]; simp [go_sem]
 have HX := Hd (xA.trans xB)
 have HSS := Hd (fun W (hW : Grown wB W) => show (fun W => W.cell? ⟨w.heap.size, 1, none⟩ = some (.int .i8 a.f) ∧ W.cell? ⟨w.heap.size, 2, none⟩ = some (.int .u64 a.n) ∧ W.cell? ⟨w.heap.size + 1, 1, none⟩ = some (.int .i8 b.f) ∧ W.cell? ⟨w.heap.size + 1, 2, none⟩ = some (.int .u64 b.n)) W from
  ⟨hW.ext.later _ _ (xB.ext.later _ _ a1), hW.ext.later _ _ (xB.ext.later _ _ a2), hW.ext.later _ _ b1, hW.ext.later _ _ b2⟩)
 have HEQ := Hd (And.intro hA (And.intro hB sA))
 clear xA hA xB hB a1 a2 b1 b2 sA
 go_enter Tryz.func141, Tryz.ntmps141
 go_upto_region 1 with fail
 rw [HEQ.out.1, HEQ.out.2.1]
 try rw [HEQ.out.2.2]
 clear HEQ
 have hz0 : Grown wB wB.drew := (Grown.refl wB).drew
 go_region_held3 (fun W => W.cell? ⟨w.heap.size, 1, none⟩ = some (.int .i8 a.f) ∧ W.cell? ⟨w.heap.size, 2, none⟩ = some (.int .u64 a.n) ∧ W.cell? ⟨w.heap.size + 1, 1, none⟩ = some (.int .i8 b.f) ∧ W.cell? ⟨w.heap.size + 1, 2, none⟩ = some (.int .u64 b.n)) (first | exact HSS.out _ hz0 | exact HSS.out _ (hz0.alloc _)) (first
  | (go_at_call 68; refine (cmp8_any a.f b.f _).mono ?_; rintro e y1 ⟨rfl, rfl⟩)
  | (go_at_call 69; refine (cmp64_any a.n b.n _).mono ?_; rintro e y1 ⟨rfl, rfl⟩)
  | (go_at_call 67; refine (or_any (cmp1 a.f b.f) (cmp1 a.n b.n) wB.heap.size _ (by simp [go_sem]) (by simp [go_sem])).mono ?_; rintro e y1 ⟨rfl, rfl⟩))
 go_wp2_with fail
 go_ret
 exact ⟨rfl, HX.out.trans (hz0.alloc _)⟩

set_option maxHeartbeats 2000000 in
theorem rows1_any (a b : AcD) (w : World) :
  Calls Tryz.prog 126 #[.agg #[.int .i8 a.d, .int .i8 a.f, .int .u64 a.n], .agg #[.int .i8 b.d, .int .i8 b.f, .int .u64 b.n]] w fun e w' => e = .returned (.int .i64 (cmp1 a.f b.f)) ∧ Grown w w' := by
 obtain ⟨wA, hA⟩ : ∃ W : World, w.alloc (.cells #[.int .i8 a.d, .int .i8 a.f, .int .u64 a.n] 81) = W := ⟨_, rfl⟩
 have xA : Grown w wA := hA ▸ (Grown.refl w).alloc _
 have sA : wA.heap.size = w.heap.size + 1 := by rw [← hA, World.size_alloc]
 obtain ⟨wB, hB⟩ : ∃ W : World, wA.alloc (.cells #[.int .i8 b.d, .int .i8 b.f, .int .u64 b.n] 81) = W := ⟨_, rfl⟩
 have xB : Grown wA wB := hB ▸ (Grown.refl wA).alloc _
 have a1 : wA.cell? ⟨w.heap.size, 1, none⟩ = some (.int .i8 a.f) := by rw [← hA]; simp [go_sem]
 have a2 : wA.cell? ⟨w.heap.size, 2, none⟩ = some (.int .u64 a.n) := by rw [← hA]; simp [go_sem]
 have b1 : wB.cell? ⟨w.heap.size + 1, 1, none⟩ = some (.int .i8 b.f) := by rw [← hB, ← sA]; simp [go_sem]
 have b2 : wB.cell? ⟨w.heap.size + 1, 2, none⟩ = some (.int .u64 b.n) := by rw [← hB, ← sA]; simp [go_sem]
 have HX := Hd (xA.trans xB)
 have HSS := Hd (fun W (hW : Grown wB W) => show (fun W => W.cell? ⟨w.heap.size, 1, none⟩ = some (.int .i8 a.f) ∧ W.cell? ⟨w.heap.size, 2, none⟩ = some (.int .u64 a.n) ∧ W.cell? ⟨w.heap.size + 1, 1, none⟩ = some (.int .i8 b.f) ∧ W.cell? ⟨w.heap.size + 1, 2, none⟩ = some (.int .u64 b.n)) W from
  ⟨hW.ext.later _ _ (xB.ext.later _ _ a1), hW.ext.later _ _ (xB.ext.later _ _ a2), hW.ext.later _ _ b1, hW.ext.later _ _ b2⟩)
 have HEQ := Hd (And.intro hA (And.intro hB sA))
 clear xA hA xB hB a1 a2 b1 b2 sA
 go_enter Tryz.func126, Tryz.ntmps126
 go_upto_region 1 with fail
 rw [HEQ.out.1, HEQ.out.2.1]
 try rw [HEQ.out.2.2]
 clear HEQ
 obtain ⟨c1, c2, c3, c4⟩ := HSS.out _ (Grown.refl _)
 go_wp2_with fail
 refine (cmp8_any a.f b.f _).mono ?_
 rintro e w1 ⟨rfl, rfl⟩
 go_wp2_with fail
 go_ret
 exact ⟨rfl, HX.out⟩
end Go.Proofs.YtjjbdbklbghlhaaGreatDoor
/- The order of rows, walked. -/
namespace Go.Proofs.YtjjbdbklbghlhaaGreatDoor
open Go.RowKit Go.Sort
set_option linter.unusedSimpArgs false

theorem ndrop_get {α : Type} {l : List α} {j : Nat} (h : j < l.length) : l.drop j = l[j] :: l.drop (j + 1) := by rw [List.drop_eq_getElem_cons h]
/-- the three cells of a row's setting -/
theorem acAt {w : World} {b o : Nat} {r : RowD} (h : w.rangeAt b o (flatA r)) (i : Nat) (hi : i < r.length) :
  w.cell? ⟨b, o + i * 3, none⟩ = some (.int .i8 (r[i]).d) ∧ w.cell? ⟨b, o + i * 3 + 1, none⟩ = some (.int .i8 (r[i]).f) ∧ w.cell? ⟨b, o + i * 3 + 2, none⟩ = some (.int .u64 (r[i]).n) := by
 have key : ∀ (l : RowD) (i k : Nat) (hi : i < l.length), k < 3 → (flatA l)[i * 3 + k]? = ((l[i]).cs)[k]? := by
  intro l
  induction l with
  | nil => intro i k hi; simp at hi
  | cons x xs ih =>
   intro i k hi hk
   cases i with
   | zero =>
    simp only [flatA, List.flatMap_cons, List.getElem_cons_zero, Nat.zero_mul, Nat.zero_add]
    rw [List.getElem?_append_left (by rw [AcD.len_cs]; exact hk)]
   | succ i =>
    have := ih i k (by simpa using hi) hk
    simp only [flatA, List.flatMap_cons, List.getElem_cons_succ] at *
    rw [List.getElem?_append_right (by rw [AcD.len_cs]; omega), AcD.len_cs, show (i + 1) * 3 + k - 3 = i * 3 + k from by omega]
    exact this
 have g : ∀ k (v : Value), ((r[i]).cs)[k]? = some v → k < 3 → w.cell? ⟨b, o + i * 3 + k, none⟩ = some v := fun k v hv hk => by
  rw [Nat.add_assoc]
  exact h (i * 3 + k) v (by rw [key r i k hi hk]; exact hv)
 exact ⟨by simpa using g 0 _ rfl (by omega), g 1 _ rfl (by omega), g 2 _ rfl (by omega)⟩

set_option maxHeartbeats 4000000 in
set_option maxRecDepth 100000 in
theorem compareF_any {B C : Nat → Prop} (r s : RowD) (rv sv : Value) (w : World) (hr : RowOn B w r rv) (hs : RowOn C w s sv) :
  Calls Tryz.prog 140 #[rv, sv, .func (.func 141) #[] #[]] w fun e w' => e = .returned (.int .i64 (cmpR r s)) ∧ Grown w w' := by
 have HR := Hd hr
 have HS := Hd hs
 obtain ⟨p, len, cap, rfl, hlen, hlc, hcm, -, hrr⟩ := hr
 obtain ⟨p2, len2, cap2, rfl, hlen2, hlc2, hcm2, -, hrs⟩ := hs
 have HL := Hd hlen
 have HL2 := Hd hlen2
 have HRR := Hd (show r = [] ∨ ∃ b o, p = some ⟨b, o, none⟩ ∧ ∀ W, Grown w W → W.rangeAt b o (flatA r) from
  hrr.imp id fun ⟨b, o, hp, _, _, h⟩ => ⟨b, o, hp, fun W hW => World.rangeAt.later hW.ext.later h⟩)
 have HRS := Hd (show s = [] ∨ ∃ b o, p2 = some ⟨b, o, none⟩ ∧ ∀ W, Grown w W → W.rangeAt b o (flatA s) from
  hrs.imp id fun ⟨b, o, hp, _, _, h⟩ => ⟨b, o, hp, fun W hW => World.rangeAt.later hW.ext.later h⟩)
 clear hlen hlen2 hrr hrs
 go_enter Tryz.func140, Tryz.ntmps140
 go_wp2_with fail
 go_loopw [13] (fun i wr => ∃ j : Nat, j ≤ len ∧ j ≤ len2 ∧ i = .int .i64 j ∧ Hid (cmpR (r.drop j) (s.drop j) = cmpR r s) ∧ Hid (Grown w wr)) (fun i _ => len - (intOf i).toNat)
 case atStart => exact ⟨0, Nat.zero_le _, Nat.zero_le _, rfl, rfl, Grown.refl _⟩
 case round =>
  obtain ⟨wn, rfl⟩ : ∃ wn : World, wn = wr := ⟨_, rfl⟩
  obtain ⟨j, hj, hj2, rfl, hT, hx⟩ := hrel
  by_cases hlt : j < len
  ·have hjl : j < r.length := by rw [← HL.out]; exact hlt
   rcases HRR.out with h | ⟨b, o, rfl, hrr⟩
   ·exfalso; subst h; simp at hjl
   have hT2 := hT.out
   rw [ndrop_get hjl] at hT2
   obtain ⟨c0, c1, c2⟩ := acAt (hrr wn hx.out) j hjl
   generalize r[j] = x at *
   obtain ⟨wS, hS⟩ : ∃ W : World, wn.alloc (.cells #[.int .i8 x.d, .int .i8 x.f, .int .u64 x.n] 81) = W := ⟨_, rfl⟩
   have xS : Grown wn wS := hS ▸ (Grown.refl wn).alloc _
   have sS : wS.heap.size = wn.heap.size + 1 := by rw [← hS, World.size_alloc]
   have e0 : wS.cell? ⟨wn.heap.size, 0, none⟩ = some (.int .i8 x.d) := by rw [← hS]; simp [go_sem]
   have e1 : wS.cell? ⟨wn.heap.size, 1, none⟩ = some (.int .i8 x.f) := by rw [← hS]; simp [go_sem]
   have e2 : wS.cell? ⟨wn.heap.size, 2, none⟩ = some (.int .u64 x.n) := by rw [← hS]; simp [go_sem]
   have HEQ := Hd hS
   have HXS := Hd (hx.out.trans xS)
   have HT2 := Hd hT2
   have HE := Hd (And.intro e0 (And.intro e1 e2))
   clear hT hT2 hS xS e0 e1 e2 hrr sS
   go_upto_region 4 with (first | (refine wpList_store_new rfl 81 _ _ rfl _ #[.int .i8 x.d, .int .i8 x.f, .int .u64 x.n] rfl rfl (by kernel_rfl) rfl (by rfl) ?_))
   rw [HEQ.out]
   try simp only [Act.put]
   clear c0 c1 c2 HEQ
   by_cases hlt2 : j < len2
   ·have hjl2 : j < s.length := by rw [← HL2.out]; exact hlt2
    rcases HRS.out with h | ⟨b', o', rfl, hrs⟩
    ·exfalso; subst h; simp at hjl2
    have hT3 := HT2.out
    rw [ndrop_get hjl2, cmpR] at hT3
    obtain ⟨c0, c1, c2⟩ := acAt (hrs wS HXS.out) j hjl2
    generalize s[j] = y at *
    obtain ⟨wT, hT⟩ : ∃ W : World, wS.alloc (.cells #[.int .i8 y.d, .int .i8 y.f, .int .u64 y.n] 81) = W := ⟨_, rfl⟩
    have xT : Grown wS wT := hT ▸ (Grown.refl wS).alloc _
    have e0 : wT.cell? ⟨wS.heap.size, 0, none⟩ = some (.int .i8 y.d) := by rw [← hT]; simp [go_sem]
    have e1 : wT.cell? ⟨wS.heap.size, 1, none⟩ = some (.int .i8 y.f) := by rw [← hT]; simp [go_sem]
    have e2 : wT.cell? ⟨wS.heap.size, 2, none⟩ = some (.int .u64 y.n) := by rw [← hT]; simp [go_sem]
    have g0 := xT.ext.later _ _ HE.out.1
    have g1 := xT.ext.later _ _ HE.out.2.1
    have g2 := xT.ext.later _ _ HE.out.2.2
    have HEQ := Hd hT
    have HXT := Hd (HXS.out.trans xT)
    have HT3 := Hd hT3
    have HO := Hd (order1_any x y wT)
    clear hT hT3 xT hrs HT2
    go_upto_region 7 with (first | (refine wpList_store_new rfl 81 _ _ rfl _ #[.int .i8 y.d, .int .i8 y.f, .int .u64 y.n] rfl rfl (by kernel_rfl) rfl (by rfl) ?_))
    rw [HEQ.out]
    try simp only [Act.put]
    clear c0 c1 c2 HEQ
    go_wp2_with fail
    refine HO.out.mono ?_
    rintro e w4 ⟨rfl, hx4⟩
    have HX4 := Hd (HXT.out.trans hx4)
    clear e0 e1 e2 g0 g1 g2 hx4
    by_cases hc : cmpA x y = 0
    ·have HT4 := Hd (show cmpR (r.drop (j + 1)) (s.drop (j + 1)) = cmpR r s from by rw [← HT3.out, if_pos hc])
     rw [hc]
     clear hc HT3
     go_wp2_with fail
     go_roundw
     case rel => exact ⟨j + 1, by omega, by omega, by go_num, HT4.out, HX4.out⟩
     case measure => simp [intOf]; omega
    ·have HF := Hd (show cmpR r s = cmpA x y from by rw [← HT3.out, if_neg hc])
     have hcb : (cmpA x y != 0) = true := by simpa using hc
     generalize cmpA x y = c at *
     go_wp2_with fail
     go_ret
     exact ⟨by rw [HF.out]; rfl, HX4.out⟩
   ·have HF := Hd (show cmpR r s = 1 from by
     rw [← HT2.out, List.drop_of_length_le (l := s) (by have := HL2.out; omega), cmpR])
    clear HT2
    go_wp2_with fail
    go_ret
    exact ⟨by rw [HF.out]; rfl, HXS.out⟩
  ·by_cases hlt2 : j < len2
   ·have HF := Hd (show cmpR r s = -1 from by
     have hjl2 : j < s.length := by rw [← HL2.out]; exact hlt2
     rw [← hT.out, List.drop_of_length_le (l := r) (by have := HL.out; omega), ndrop_get hjl2, cmpR])
    have hll : len < len2 := by omega
    clear hT
    go_wp2_with fail
    go_ret
    exact ⟨by rw [HF.out]; rfl, hx.out⟩
   ·have HF := Hd (show cmpR r s = 0 from by
     rw [← hT.out, List.drop_of_length_le (l := s) (by have := HL2.out; omega), List.drop_of_length_le (l := r) (by have := HL.out; omega), cmpR])
    have hll : ¬ len < len2 := by omega
    clear hT
    go_wp2_with fail
    go_ret
    exact ⟨by rw [HF.out]; rfl, hx.out⟩

theorem order_any {B C : Nat → Prop} (r s : RowD) (rv sv : Value) (w : World) (hr : RowOn B w r rv) (hs : RowOn C w s sv) :
  Calls Tryz.prog 128 #[rv, sv] w fun e w' => e = .returned (.int .i64 (cmpR r s)) ∧ Grown w w' := by
 have HC := Hd (compareF_any r s rv sv w hr hs)
 obtain ⟨p, cap, rfl, -⟩ := hr.form
 obtain ⟨p2, cap2, rfl, -⟩ := hs.form
 generalize cmpR r s = c at *
 go_enter Tryz.func128, Tryz.ntmps128
 go_wp2_with fail
 refine HC.out.mono ?_
 rintro e w1 ⟨rfl, hx⟩
 go_wp2_with fail
 go_ret
 exact ⟨rfl, hx⟩
theorem rows2_any {B C : Nat → Prop} (r s : RowD) (rv sv : Value) (w : World) (hr : RowOn B w r rv) (hs : RowOn C w s sv) :
  Calls Tryz.prog 130 #[rv, sv] w fun e w' => e = .returned (.bool (cmpR r s == 0)) ∧ Grown w w' := by
 have HC := Hd (order_any r s rv sv w hr hs)
 obtain ⟨p, cap, rfl, -⟩ := hr.form
 obtain ⟨p2, cap2, rfl, -⟩ := hs.form
 generalize cmpR r s = c at *
 go_enter Tryz.func130, Tryz.ntmps130
 go_wp2_with fail
 refine HC.out.mono ?_
 rintro e w1 ⟨rfl, hx⟩
 go_wp2_with fail
 go_ret
 exact ⟨rfl, hx⟩
end Go.Proofs.YtjjbdbklbghlhaaGreatDoor
/- header.Compare and the reference's Less: the order of headers by their fields. -/
namespace Go.Proofs.YtjjbdbklbghlhaaGreatDoor
open Go.RowKit
set_option linter.unusedSimpArgs false

def cmpL : List Int → List Int → Int
 | x :: xs, y :: ys => if x < y then -1 else if y < x then 1 else cmpL xs ys
 | _, _ => 0
def cmpH (a b : Hdr) : Int := cmpL a.l b.l

theorem cmpL_lt : ∀ {l m : List Int} (j : Nat), (∀ i, i < j → l.getD i 0 = m.getD i 0) → j < l.length → j < m.length → l.getD j 0 < m.getD j 0 → cmpL l m = -1
 | x :: xs, y :: ys, 0, _, _, _, h => by simp at h; simp [cmpL, h]
 | x :: xs, y :: ys, j + 1, he, h1, h2, h => by
  have h0 := he 0 (by omega)
  simp at h0; subst h0
  simp only [cmpL, Int.lt_irrefl, if_false]
  exact cmpL_lt j (fun i hi => by simpa using he (i + 1) (by omega)) (by simpa using h1) (by simpa using h2) (by simpa using h)
theorem cmpL_gt : ∀ {l m : List Int} (j : Nat), (∀ i, i < j → l.getD i 0 = m.getD i 0) → j < l.length → j < m.length → m.getD j 0 < l.getD j 0 → cmpL l m = 1
 | x :: xs, y :: ys, 0, _, _, _, h => by
  simp at h; simp [cmpL, h]; omega
 | x :: xs, y :: ys, j + 1, he, h1, h2, h => by
  have h0 := he 0 (by omega)
  simp at h0; subst h0
  simp only [cmpL, Int.lt_irrefl, if_false]
  exact cmpL_gt j (fun i hi => by simpa using he (i + 1) (by omega)) (by simpa using h1) (by simpa using h2) (by simpa using h)
theorem cmpL_self : ∀ (l : List Int), cmpL l l = 0
 | [] => rfl
 | x :: xs => by simp [cmpL, cmpL_self xs]

theorem cmpH_lt {a b : Hdr} (j : Nat) (hj : j < 11) (he : ∀ i, i < j → a.f i = b.f i) (h : a.f j < b.f j) : cmpH a b = -1 :=
 cmpL_lt j he (by rw [a.length_l]; exact hj) (by rw [b.length_l]; exact hj) h
theorem cmpH_gt {a b : Hdr} (j : Nat) (hj : j < 11) (he : ∀ i, i < j → a.f i = b.f i) (h : b.f j < a.f j) : cmpH a b = 1 :=
 cmpL_gt j he (by rw [a.length_l]; exact hj) (by rw [b.length_l]; exact hj) h
theorem cmpH_same {a b : Hdr} (he : ∀ i, i < 11 → a.f i = b.f i) : cmpH a b = 0 := by
 rw [Hdr.ext he]; exact cmpL_self _

set_option maxHeartbeats 400000 in
theorem compare_any (a b : Hdr) (w : World) : Calls Tryz.prog 32 #[.agg a.cs, .agg b.cs] w fun e w' =>
  e = .returned (.int .i64 (cmpH a b)) ∧ ∃ n, w' = ((w.alloc (.cells a.cs 49)).alloc (.cells b.cs 49)).drewN n := by
 go_enter Tryz.func32, Tryz.ntmps32
 go_wp2_with fail
 go_loopw [6] (fun i wr => ∃ j n : Nat, j ≤ 11 ∧ i = .int .i64 j ∧ Hid (∀ m, m < j → a.f m = b.f m) ∧ wr = ((w.alloc (.cells a.cs 49)).alloc (.cells b.cs 49)).drewN n) (fun i _ => 11 - (intOf i).toNat)
 case atStart => exact ⟨0, 0, by omega, rfl, fun m hm => by omega, rfl⟩
 case round =>
  obtain ⟨j, n, hj, rfl, hd, rfl⟩ := hrel
  by_cases hlt : j < 11
  ·have ha := a.cell j hlt
   have hb := b.cell j hlt
   rcases Int.lt_trichotomy (a.f j) (b.f j) with h | h | h
   ·have HF := Hd (cmpH_lt j hlt hd.out h)
    have hd1 : decide (a.f j < b.f j) = true := by simpa using h
    go_wp2_with fail
    go_quiet (fail)
    go_wp2_with fail
    go_ret
    exact ⟨by rw [HF.out]; rfl, _, by simp only [World.drewN_drewN]; rfl⟩
   ·have HF := Hd h
    have hd1 : decide (a.f j < b.f j) = false := by simp; omega
    have hd2 : decide (b.f j < a.f j) = false := by simp; omega
    clear h
    go_wp2_with fail
    go_quiet (fail)
    go_wp2_with fail
    go_quiet (fail)
    go_wp2_with fail
    go_roundw
    case rel => exact ⟨j + 1, _, by omega, by go_num, fun m hm => by
     rcases Nat.lt_succ_iff_lt_or_eq.1 hm with h1 | rfl
     ·exact hd.out m h1
     ·exact HF.out, rfl⟩
    case measure => simp [intOf]; omega
   ·have HF := Hd (cmpH_gt j hlt hd.out h)
    have hd1 : decide (a.f j < b.f j) = false := by simp; omega
    have hd2 : decide (b.f j < a.f j) = true := by simpa using h
    go_wp2_with fail
    go_quiet (fail)
    go_wp2_with fail
    go_quiet (fail)
    go_wp2_with fail
    go_ret
    exact ⟨by rw [HF.out]; rfl, _, by simp only [World.drewN_drewN]; rfl⟩
  ·have hge : 11 ≤ j := by omega
   have HF := Hd (cmpH_same (a := a) (b := b) (fun m h => hd.out m (by omega)))
   go_wp2_with fail
   go_ret
   exact ⟨by rw [HF.out]; rfl, _, rfl⟩

end Go.Proofs.YtjjbdbklbghlhaaGreatDoor

/- meaning.set: add and list. -/
import Derived.Test.YtddeelepaiklgaaRange
import Derived.Test.YtddeelepaiklgaaSetp
import Derived.Laws.PanicsMore
import Derived.ChangeMaps5
import Derived.Maps.RangeWalk
namespace Go.Proofs.Ytddeelepaiklgaa
open Go.RowKit Go.Maps

theorem mapM_some {α β : Type} {f : α → Option β} : ∀ (l : List α), (∀ x ∈ l, ∃ y, f x = some y) → ∃ ys, l.mapM f = some ys
  | [], _ => ⟨[], rfl⟩
  | x :: r, h => by
    obtain ⟨y, hy⟩ := h x List.mem_cons_self
    obtain ⟨ys, hys⟩ := mapM_some r (fun z hz => h z (List.mem_cons_of_mem _ hz))
    exact ⟨y :: ys, by simp [List.mapM_cons, hy, hys]⟩

theorem arrH : WideMaps.ArrKey Try.prog 24 22 11 := ⟨Try.underlying24, by kernel_rfl, by kernel_rfl, by kernel_rfl⟩
theorem typesN : ∃ m, Try.prog.types.size = m + 1 := ⟨_, rfl⟩
theorem keyH (h : Hdr) : ∃ l, keyOf Try.prog 24 (.agg h.cs) = some l := by
  have hkt := arrH.keyType typesN
  obtain ⟨m, hm⟩ := typesN
  unfold keyOf
  simp only [arrH.hu]
  rw [if_pos (by simp [hkt, Value.formed, arrH.hu, arrH.size, h.size_cs]), hm]
  unfold Program.keyLits
  simp only [arrH.hu, Value.cells]
  rw [if_pos (by rw [arrH.size]; simpa using h.size_cs)]
  obtain ⟨ys, hys⟩ := mapM_some (f := fun i => Try.prog.keyLits (m + 1) 22 ((h.cs.toList.drop (i * Try.prog.cellsOf 22)).take (Try.prog.cellsOf 22))) (List.range 11) (fun i hi => by
    have hi' : i < 11 := by simpa using hi
    have hc := h.cell i hi'
    have e1 : (h.cs.toList.drop (i * Try.prog.cellsOf 22)).take (Try.prog.cellsOf 22) = [.int .u64 (h.f i)] := by
      rw [arrH.one, Nat.mul_one, List.drop_eq_getElem_cons (by simp [h.size_cs]; exact hi')]
      have : h.cs.toList[i]'(by simp [h.size_cs]; exact hi') = .int .u64 (h.f i) := by
        have := hc
        rw [Array.getElem?_eq_getElem (by rw [h.size_cs]; exact hi')] at this
        simpa using this
      rw [this]
      rfl
    refine ⟨[.int .u64 (h.f i)], ?_⟩
    rw [e1]
    have hb := h.f_bd i
    have wf : (Lit.int .u64 (h.f i)).wf = true := by
      simp [Lit.wf, IntKind.min, IntKind.max, IntKind.bits, IntKind.signed]
      omega
    unfold Program.keyLits
    simp [Try.underlying22, wf])
  rw [hys]
  exact ⟨_, rfl⟩

def kvH (h : Hdr) : Value := .agg h.cs
theorem codedH : Coded Try.prog 24 kvH where
  keyed := Keyed.of_law arrH.law
  key := keyH
  inj := fun h => Hdr.cs_inj (by simpa [kvH] using h)

/-- block b is the set l -/
def SetIs (w : World) (b : Nat) (l : List Hdr) : Prop := MapOf w kvH (fun _ : Unit => Value.agg #[.bool true]) b (l.map fun h => (h, ())) ∧ l.Nodup
theorem SetIs.ext {w w' : World} {b : Nat} {l : List Hdr} (h : SetIs w b l) (hx : Ext w w') : SetIs w' b l := ⟨MapRaw.ext h.1 hx, h.2⟩
theorem SetIs.keep {S : Nat → Prop} {w w' : World} {b : Nat} {l : List Hdr} (h : SetIs w b l) (hx : Keep S w w') (hs : ¬ S b) : SetIs w' b l := ⟨MapRaw.kept h.1 (hx.block b (MapRaw.lt h.1) hs), h.2⟩
theorem SetIs.lt {w : World} {b : Nat} {l : List Hdr} (h : SetIs w b l) : b < w.heap.size := MapRaw.lt h.1
theorem SetIs.nd {w : World} {b : Nat} {l : List Hdr} (h : SetIs w b l) : ((l.map fun h => (h, ())).map (·.1)).Nodup := by
  rw [List.map_map]
  exact (by simpa using h.2 : (l.map fun h => h).Nodup)
theorem SetIs.made (w : World) : SetIs (w.alloc (.map #[] 0)) w.heap.size [] := ⟨MapRaw.made w, List.nodup_nil⟩
theorem look_set (x : Hdr) (l : List Hdr) : look x (l.map fun h => (h, ())) = if x ∈ l then some () else none := by
  induction l with
  | nil => rfl
  | cons y r ih =>
    simp only [List.map_cons, look, ih, List.mem_cons]
    by_cases h : y = x
    · simp [h]
    · have : ¬ x = y := fun e => h e.symm
      simp [h, this]
theorem store_set {x : Hdr} {l : List Hdr} (h : x ∉ l) : store x () (l.map fun h => (h, ())) = (l ++ [x]).map fun h => (h, ()) := by
  rw [store_new (by intro p hp; obtain ⟨y, hy, rfl⟩ := List.mem_map.1 hp; exact fun e => h (by rw [← e]; exact hy))]
  simp
theorem zeroS (w : World) : (zeroValue 100).run Try.prog w = .ok (.agg #[.bool false]) w := by kernel_rfl

theorem SetIs.look {w : World} {b : Nat} {l : List Hdr} (h : SetIs w b l) (x : Hdr) : (Instr.lookup 102 (.map (some b)) (.agg x.cs) false).run Try.prog w = .ok (.agg #[.bool (decide (x ∈ l))]) w := by
  have := run_lookup_of codedH Try.underlying102 h.1 h.nd x _ (zeroS w) false
  rw [look_set] at this
  by_cases hx : x ∈ l
  · rw [if_pos hx] at this
    rw [decide_eq_true hx]
    exact this
  · rw [if_neg hx] at this
    rw [decide_eq_false hx]
    exact this
theorem SetIs.put {w : World} {b : Nat} {l : List Hdr} (h : SetIs w b l) {x : Hdr} (hx : x ∉ l) : ∃ w', (Instr.mapUpdate 102 (.map (some b)) (.agg x.cs) (.agg #[.bool true])).run Try.prog w = .ok () w' ∧ SetIs w' b (l ++ [x]) ∧ Keep (· = b) w w' := by
  obtain ⟨w', h1, h2, h3⟩ := run_update_of codedH Try.underlying102 h.1 h.nd x ()
  rw [store_set hx] at h2
  exact ⟨w', h1, ⟨h2, by rw [List.nodup_append]; exact ⟨h.2, by simp, fun a ha b hb => by simp at hb; subst hb; exact fun e => hx (by rw [← e]; exact ha)⟩⟩, Keep.grown h3⟩
theorem SetIs.len {w : World} {b : Nat} {l : List Hdr} (h : SetIs w b l) (ty : TypeId) : (Builtin.len_ #[102] ty #[.map (some b)]).run Try.prog w = .ok (.int .i64 l.length) w := by
  obtain ⟨es, clock, hb, hm, -⟩ := h.1
  have e1 : es.size = l.length := by
    have := congrArg List.length hm
    simpa using this
  simp [Builtin.len_, run_underlying Try.underlying102, MapKept.run_getObj_map hb, goInt, Result.andThen, e1]
theorem wpList_len_set {ops : Array Oper} {rest : List Oper} {o : Oper} {a : Act} {w : World} {Q : Exit → Act → World → Prop} (hg : o.guard = none) (m : Operand) (hop : o.op = Op.call { callee := Callee.builtin Builtin.len, args := #[m], argTypes := #[102] })
    (b : Nat) (l : List Hdr) (hm : a.eval m = .map (some b)) (h : SetIs w b l) (hK : wpList Try.prog ops Q rest (a.put o.dst (.int .i64 l.length)) w) : wpList Try.prog ops Q (o :: rest) a w := by
  refine wpList_plain hg fun K' hK' => ?_
  unfold Oper.wp
  simp [execOp, hop, resolve, invoke, builtin, hm, h.len o.type, Result.andThen]
  exact hK' _ _ hK

/-- a header out of the block that holds just it -/
theorem wpList_load_H {ops : Array Oper} {rest : List Oper} {op : Oper} {a : Act} {w : World} {Q : Exit → Act → World → Prop} (hgd : op.guard = none) (x : Operand) (ho : op.op = .load 24 x)
    (b o : Nat) (hx : a.eval x = .pointer (some ⟨b, o, none⟩)) (y : Hdr) (hc : w.rangeAt b o y.cs.toList)
    (h : wpList Try.prog ops Q rest (a.put op.dst (.agg y.cs)) w) : wpList Try.prog ops Q (op :: rest) a w :=
  wpList_load_mid hgd 24 x ho b o hx y.cs.toList _ hc Try.underlying24 rfl (by rw [y.len_cs]; kernel_rfl) (by rwa [Array.toArray_toList])

theorem fieldS (c : Bool) (w : World) : (Instr.field 100 (.agg #[.bool c]) 0).run Try.prog w = .ok (.bool c) w := by kernel_rfl
def tooBig : List PanicEntry := [{ v := .iface 71 (.agg #[]), recovered := false }]

set_option maxHeartbeats 1000000 in
set_option maxRecDepth 100000 in
theorem add_there (l : List Hdr) (x : Hdr) (b : Nat) (w : World) (h : SetIs w b l) (hx : x ∈ l) :
    Calls Try.prog 54 #[.map (some b), .agg x.cs] w fun e w' => e = .returned (.bool false) ∧ Ext w w' := by
  have h1 := h.ext (Ext.alloc w (.cells x.cs 24))
  have hr := rangeAt_new w x.cs 24
  have hl := h1.look x
  rw [show decide (x ∈ l) = true from by simpa using hx] at hl
  have hfs := fieldS
  have HR := Lib.hid hr
  clear hr
  go_enter Try.func54, Try.ntmps54
  go_wp2_with (first | (refine wpList_load_H rfl _ rfl _ _ rfl x HR.out ?_) | (refine wpList_lookup_run rfl 102 _ _ false rfl _ _ _ rfl rfl hl ?_))
  go_ret
  exact ⟨rfl, Ext.alloc _ _⟩

set_option maxHeartbeats 1000000 in
set_option maxRecDepth 100000 in
theorem add_new (l : List Hdr) (x : Hdr) (b : Nat) (w : World) (h : SetIs w b l) (hx : x ∉ l) :
    Calls Try.prog 54 #[.map (some b), .agg x.cs] w fun e w' => Keep (· = b) w w' ∧
      ((l.length < 64 ∧ e = .returned (.bool true) ∧ SetIs w' b (l ++ [x])) ∨ (64 ≤ l.length ∧ e = .panicked tooBig)) := by
  have h1 := h.ext (Ext.alloc w (.cells x.cs 24))
  have hr := rangeAt_new w x.cs 24
  have hl := h1.look x
  rw [show decide (x ∈ l) = false from by simpa using hx] at hl
  obtain ⟨w2, hu, h2, hk⟩ := h1.put hx
  have hfs := fieldS
  have HR := Lib.hid hr
  have HK := Lib.hid (((Ext.alloc w (.cells x.cs 24)).keep (· = b)).trans hk)
  have hlen : (l ++ [x]).length = l.length + 1 := by simp
  have HU := Lib.hid hu
  have HL := Lib.hid hl
  have H2 := Lib.hid h2
  clear hr hk hu hl h2
  by_cases hlt : l.length < 64
  · have hd : decide (64 < (l ++ [x]).length) = false := by simp; omega
    go_enter Try.func54, Try.ntmps54
    go_wp2_with (first | (refine wpList_load_H rfl _ rfl _ _ rfl x HR.out ?_) | (refine wpList_lookup_run rfl 102 _ _ false rfl _ _ _ rfl rfl HL.out ?_) | (refine wpList_update_run rfl 102 _ _ _ (.inl rfl) _ _ _ _ rfl rfl rfl HU.out ?_) | (refine wpList_len_set rfl _ rfl b _ rfl H2.out ?_))
    go_ret
    exact ⟨HK.out, .inl ⟨hlt, rfl, H2.out⟩⟩
  · have hge : 64 ≤ l.length := by omega
    have hd : decide (64 < (l ++ [x]).length) = true := by simp; omega
    go_enter Try.func54, Try.ntmps54
    go_wp2_with (first | (refine wpList_load_H rfl _ rfl _ _ rfl x HR.out ?_) | (refine wpList_lookup_run rfl 102 _ _ false rfl _ _ _ rfl rfl HL.out ?_) | (refine wpList_update_run rfl 102 _ _ _ (.inl rfl) _ _ _ _ rfl rfl rfl HU.out ?_) | (refine wpList_len_set rfl _ rfl b _ rfl H2.out ?_))
    exact ⟨rfl, HK.out, .inr ⟨hge, rfl⟩⟩

theorem sizeH (w : World) : (Go.sizeOf 24).run Try.prog w = .ok 11 w := by kernel_rfl
theorem zeroH (w : World) : (zeroValue 24).run Try.prog w = .ok (.agg (Array.replicate 11 (.int .u64 0))) w := by kernel_rfl
/-- []Header{y} -/
theorem wpList_one_H {ops : Array Oper} {rest : List Oper} {o : Oper} {a : Act} {w : World} {Q : Exit → Act → World → Prop} (hgd : o.guard = none) (x : Operand) (ho : o.op = .buildSlice 25 1 #[(0, x)]) (y : Hdr) (hx : a.eval x = .agg y.cs)
    (h : wpList Try.prog ops Q rest (a.put o.dst (.slice (some ⟨w.heap.size, 0, none⟩) 1 1)) (w.alloc (.cells y.cs 24))) : wpList Try.prog ops Q (o :: rest) a w :=
  wpList_buildSlice_run hgd 25 1 x ho _ _ _ hx (run_buildSlice_one Try.underlying25 sizeH zeroH (by omega) (by omega) y.size_cs w) h
theorem infoH : (Try.prog.info? 24).map (fun i => (i.zero, i.size, i.bytes)) = some (some (.agg (Array.replicate 11 (.int .u64 0))), 11, 88) := by kernel_rfl

/-- append(l, y) of headers, to a slice that the call owns -/
theorem wpList_append_H {ops : Array Oper} {rest : List Oper} {o : Oper} {a : Act} {w : World} {Q : Exit → Act → World → Prop} (hgd : o.guard = none) (s x : Operand)
    (ho : o.op = .call { callee := .builtin .append, args := #[s, x], argTypes := #[25, 25] }) (base : Nat) (v : Value) (l : List Hdr) (hs : a.eval s = v) (hown : w.ownsRow base 24 11 v l.length (flatH l))
    (b : Nat) (y : Hdr) (hx : a.eval x = .slice (some ⟨b, 0, none⟩) 1 1) (hc : w.rangeAt b 0 y.cs.toList) (hlen : l.length < 1000000000) (hbase : base ≤ w.heap.size)
    (hK : ∀ v' w', w'.ownsRow base 24 11 v' (l ++ [y]).length (flatH (l ++ [y])) → w.grownBy w' v.ownBlock → wpList Try.prog ops Q rest (a.put o.dst v') w') : wpList Try.prog ops Q (o :: rest) a w := by
  obtain ⟨i0, hi0, hz0, hz1, hz2⟩ := info_parts infoH
  refine wpList_append_own w hgd s x 25 ho base 24 i0 _ 11 88 Try.underlying25 hi0 hz0 hz1 hz2 rfl (by omega) v l.length (flatH l) hs hown ⟨b, 0, none⟩ 1 1 y.cs.toList hx (by rw [y.len_cs])
    (fun j u hu => by rw [Addr.add_mid]; exact hc j u hu) y.one (by unfold maxLen; omega) (by omega) hbase ?_
  intro v' w' hown' hg _
  refine hK v' w' ?_ hg
  have e : flatH (l ++ [y]) = flatH l ++ y.cs.toList := by simp [flatH]
  rw [e, List.length_append]
  exact hown'

theorem pairs_in {l : List Hdr} {p : Value × Value} (h : p ∈ l.map fun h => (kvH h, Value.agg #[.bool true])) : ∃ x ∈ l, p = (.agg x.cs, .agg #[.bool true]) := by
  obtain ⟨x, hx, rfl⟩ := List.mem_map.1 h
  exact ⟨x, hx, rfl⟩

def lenOf : Value → Nat
  | .slice _ n _ => n
  | _ => 0
theorem lenOf_owns {w : World} {base : Nat} {e : TypeId} {size : Nat} {v : Value} {n : Nat} {xs : List Value} (h : w.ownsRow base e size v n xs) : lenOf v = n := by
  rcases h.2 with ⟨rfl, rfl⟩ | ⟨g, cap, cur, rfl, _⟩ <;> rfl

set_option maxHeartbeats 2000000 in
set_option maxRecDepth 100000 in
theorem list_any (l : List Hdr) (b : Nat) (w : World) (h : SetIs w b l) (hlen : l.length ≤ 100) :
    Calls Try.prog 55 #[.map (some b)] w fun e w' => Ext w w' ∧ ∃ v, e = .returned v ∧ w'.ownsRow w.heap.size 24 11 v l.length (flatH (sortH l)) := by
  obtain ⟨w1, hr, hrg, hx1⟩ := run_range_of Try.underlying102 h.1
  have HR := Lib.hid hr
  have H1 := Lib.hid (show Ranging w1 w.heap.size b (l.map fun h => (kvH h, Value.agg #[.bool true])) [] from by have := hrg; rw [List.map_map] at this; exact this)
  have HX := Lib.hid hx1
  clear hr hrg hx1
  go_enter Try.func55, Try.ntmps55
  go_wp2_with (refine wpList_range_run rfl 102 _ rfl _ _ _ rfl HR.out ?_)
  go_frame
  go_loopw [3] (fun v wr => ∃ done : List Hdr, wr.ownsRow w.heap.size 24 11 v done.length (flatH done) ∧ Hid (Ranging wr w.heap.size b (l.map fun h => (kvH h, Value.agg #[.bool true])) (done.map fun h => (kvH h, Value.agg #[.bool true]))) ∧ Hid (Ext w wr)) (fun v _ => l.length - lenOf v)
  case atStart => exact ⟨[], World.ownsRow_nil _ _ _ _, H1.out, HX.out⟩
  case round =>
    rename_i v wr
    obtain ⟨done, hown, hrg, hxr⟩ := hrel
    rcases run_next_of (P := Try.prog) hrg.out 0 with ⟨hp, hrun⟩ | ⟨p, w2, hlt, hrun, hrg2, hg2, hent⟩
    · have hpl : done.Perm l := perm_of_map (fun {x y} h => codedH.inj (by simpa using congrArg Prod.fst h)) hp
      have hlen2 : done.length ≤ 100 := by have := hpl.length_eq; omega
      have HS := Lib.hid (sort_any done u3 w.heap.size wr hown (by omega))
      have HF := Lib.hid (show sortH done = sortH l from sortH_congr hpl)
      have HN := Lib.hid hpl.length_eq
      have HB := Lib.hid (fun i (hi : u3.ownBlock = some i) => (hown.lt i hi).1)
      clear hp hpl hown hrg
      go_wp2_with (refine wpList_next_run rfl _ _ rfl _ _ _ rfl hrun ?_)
      refine HS.out.mono ?_
      rintro e w2 ⟨rfl, hown2, hg2⟩
      go_wp2_with fail
      go_ret
      refine ⟨?_, u3, rfl, by rw [← HN.out, ← HF.out]; exact hown2⟩
      exact hxr.out.trans' ⟨hg2.os, hg2.tape, hg2.output, hg2.size, fun i hi => hg2.block i (Nat.lt_of_lt_of_le hi hxr.out.size) (fun e => by have := HB.out i e.symm; omega)⟩
    · obtain ⟨x, hx, hpx⟩ := pairs_in (show p ∈ l.map fun h => (kvH h, Value.agg #[.bool true]) from by
        obtain ⟨es, clock, seen, -, -, -, -, -, hperm, -⟩ := hrg2
        exact hperm.mem_iff.1 (by simp))
      subst hpx
      have hlen2 : done.length < l.length := by simpa using hlt
      have hxr2 : Ext w w2 := hxr.out.andKeep (Keep.grown hg2) (fun i hi => by rw [hi]; exact Nat.le_refl _)
      have hne : u3.ownBlock ≠ some w.heap.size := fun e => by
        rcases hown.2 with ⟨rfl, _⟩ | ⟨g, cap, cur, rfl, _, hgc, _⟩
        · cases e
        · obtain ⟨es, clock, seen, hr, _⟩ := hrg.out
          have : g = w.heap.size := by simpa [Value.ownBlock] using e
          rw [← this, hgc] at hr
          cases hr
      have hown2 := hown.kept hg2 (.inr hne)
      have hr0 := rangeAt_new w2 x.cs 24
      have HR0 := Lib.hid hr0
      have hx2 := Lib.hid hxr2
      have HO := Lib.hid ((hown2.alloc (.cells x.cs 24)).alloc (.cells x.cs 24))
      have hsz : w.heap.size ≤ w2.heap.size := hxr2.size
      have HRG := Lib.hid hrg2
      have HBL := Lib.hid (fun i (hi : u3.ownBlock = some i) => (hown.lt i hi).1)
      have HLV := Lib.hid (lenOf_owns hown)
      have HZ := Lib.hid zeroH
      have hent' := Lib.hid (hent w2 rfl rfl)
      clear hrg hrg2 hg2 hent hr0 hlt hown2 hown hxr2
      go_wp2_with (first
        | (refine wpList_next_run rfl _ _ rfl _ _ _ rfl hrun ?_)
        | (refine wpList_entry_run rfl _ rfl _ _ _ rfl hent'.out ?_)
        | (refine wpList_store_new rfl 24 _ _ rfl _ x.cs rfl rfl (by rw [x.size_cs]; kernel_rfl) (by rw [x.size_cs]; rfl) (all_oneCell_toArray x.one) ?_)
        | (refine wpList_load_H rfl _ rfl _ _ rfl x HR0.out ?_)
        | (refine wpList_one_H rfl _ rfl x rfl ?_)
        | (at_builtin; refine wpList_append_H rfl _ _ rfl w.heap.size u3 done rfl HO.out _ x rfl (rangeAt_new _ _ _) (by omega) (by simp; omega) ?_; intro v' w4 hown4 hg4))
      have hxa : Ext w2 ((w2.alloc (.cells x.cs 24)).alloc (.cells x.cs 24)) := (Ext.alloc _ _).andAlloc _
      have hb := h.lt
      have hrl := HRG.out.lt
      have hrg4 : Ranging w4 w.heap.size b (l.map fun h => (kvH h, Value.agg #[.bool true])) ((done ++ [x]).map fun h => (kvH h, Value.agg #[.bool true])) := by
        rw [List.map_append]
        refine HRG.out.kept ?_ ?_
        · exact (hg4.block _ (by simp; omega) (fun e => hne e.symm)).trans (Below.block hxa _ hrl)
        · exact (hg4.block _ (by simp; omega) (fun e => by have := HBL.out b e.symm; omega)).trans (Below.block hxa _ (by omega))
      refine ⟨⟨done ++ [x], hown4, hrg4, ?_⟩, ?_⟩
      · exact (hx2.out.trans hxa).trans' ⟨hg4.os, hg4.tape, hg4.output, hg4.size, fun i hi => hg4.block i (by simp; omega) (fun e => by have := HBL.out i e.symm; omega)⟩
      · rw [lenOf_owns hown4, HLV.out]
        simp
        omega
end Go.Proofs.Ytddeelepaiklgaa

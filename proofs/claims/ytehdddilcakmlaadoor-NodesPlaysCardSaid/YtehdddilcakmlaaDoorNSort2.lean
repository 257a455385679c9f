/- Rows in order: Clone, SortFunc, sorted. -/
import Derived.Test.YtehdddilcakmlaaDoorNRow
namespace Go.Proofs.YtehdddilcakmlaaDoor
open Go.RowKit Go.Sort Go.Maps Go.Lib
set_option linter.unusedSimpArgs false

/-- the cells vs read as the rows l -/
def RowsV (B : Nat → Prop) (w : World) (l : List RowD) (vs : List Value) : Prop := vs.length = l.length ∧ ∀ i (h : i < l.length) (h' : i < vs.length), RowOn B w (l[i]) (vs[i])
theorem RowsV.keep {B : Nat → Prop} {w w' : World} {l : List RowD} {vs : List Value} (h : RowsV B w l vs) (hs : w.heap.size ≤ w'.heap.size) (hk : ∀ b, B b → b < w.heap.size → w'.heap[b]? = w.heap[b]?) : RowsV B w' l vs := ⟨h.1, fun i a b => (h.2 i a b).keep hs hk⟩
theorem RowsV.ext {B : Nat → Prop} {w w' : World} {l : List RowD} {vs : List Value} (h : RowsV B w l vs) (hx : Ext w w') : RowsV B w' l vs := ⟨h.1, fun i a b => (h.2 i a b).ext hx⟩
theorem RowsV.mono {B C : Nat → Prop} {w : World} {l : List RowD} {vs : List Value} (h : RowsV B w l vs) (hBC : ∀ b, b < w.heap.size → B b → C b) : RowsV C w l vs := ⟨h.1, fun i a b => (h.2 i a b).mono hBC⟩
theorem RowsV.one {B : Nat → Prop} {w : World} {l : List RowD} {vs : List Value} (h : RowsV B w l vs) : ∀ u ∈ vs, u.oneCell' = true := by
  intro u hu
  obtain ⟨i, hi, rfl⟩ := List.getElem_of_mem hu
  obtain ⟨p, cap, he, -⟩ := (h.2 i (by rw [← h.1]; exact hi) hi).form
  rw [he]; rfl
theorem RowsV.nil {B : Nat → Prop} {w : World} : RowsV B w [] [] := ⟨rfl, fun i h => by simp at h⟩
theorem RowsV.snoc {B : Nat → Prop} {w : World} {l : List RowD} {vs : List Value} (h : RowsV B w l vs) {r : RowD} {v : Value} (hr : RowOn B w r v) : RowsV B w (l ++ [r]) (vs ++ [v]) := by
  refine ⟨by rw [List.length_append, List.length_append, h.1]; rfl, fun i a b => ?_⟩
  by_cases hi : i < l.length
  · rw [List.getElem_append_left hi, List.getElem_append_left (by rw [h.1]; exact hi)]
    exact h.2 i hi _
  · have hl : i = l.length := by simp at a; omega
    subst hl
    rw [List.getElem_append_right (Nat.le_refl _), List.getElem_append_right (by rw [h.1]; exact Nat.le_refl _)]
    simpa using hr
theorem RowsOn.of_owns {B : Nat → Prop} {w : World} {base : Nat} {l : List RowD} {v : Value} {vs : List Value} (h : w.ownsRow base 52 1 v l.length vs) (hv : RowsV B w l vs) (hB : ∀ b, v.ownBlock = some b → B b) : RowsOn B w l v := by
  obtain ⟨p, c, rfl, hc, hcm⟩ := owns_form h
  refine ⟨p, l.length, c, rfl, rfl, hc, hcm, ?_⟩
  rcases owns_range h with ⟨h0, -⟩ | ⟨g, c', he, hb, hlt, hr⟩
  · exact .inl (List.length_eq_zero_iff.1 h0)
  · cases he
    exact .inr ⟨g, 0, vs, rfl, hB g rfl, hlt, hv.1, hr, hv.2⟩

theorem putRow_map {α : Type} [Inhabited α] (enc : α → Value) (w : World) (blk off : Nat) (d : Array α) : putRow enc w blk off d = putRow id w blk off (d.map enc) := by
  unfold putRow
  congr 1
  funext c
  unfold putCells
  congr 1
  funext k x
  by_cases h : off ≤ k ∧ k < off + d.size
  · have h1 : k - off < d.size := by omega
    rw [if_pos h, if_pos (by simpa using h), getElem!_pos d _ h1, getElem!_pos (d.map enc) _ (by simpa using h1)]
    simp
  · rw [if_neg h, if_neg (by simpa using h)]
theorem sortWorld_map {α : Type} [Inhabited α] (enc : α → Value) (w : World) (blk off m : Nat) (d : Array α) (os : Array Obj) : sortWorld enc w blk off m d os = grow (putRow id (Sort.ahead w m) blk off (d.map enc)) os := by
  unfold sortWorld
  rw [putRow_map]

set_option maxHeartbeats 2000000 in
theorem cloneR_any {B : Nat → Prop} (l : List RowD) (v : Value) (w : World) (h : RowsOn B w l v) (hl : l.length ≤ 1000000) :
    Calls Tryd.prog 49 #[v] w fun e w' => ∃ u, e = .returned u ∧ ((∃ vs, w'.ownsRow w.heap.size 52 1 u l.length vs ∧ RowsV B w' l vs) ∧ Ext w w') := by
  obtain ⟨p, len, cap, rfl, hlen, hlc, hcm, hr⟩ := h
  have hq1 := Lib.run_eql_slice_nil (P := Tryd.prog)
  have HL := Lib.hid hlen
  have hl2 : len ≤ 1000000 := by omega
  cases p with
  | none =>
    have h0 := hr.resolve_right (by rintro ⟨b, o, vs, h, -⟩; cases h)
    subst h0
    go_enter Tryd.func49, Tryd.ntmps49
    go_wp2_with fail
    go_ret
    exact ⟨_, rfl, ⟨[], World.ownsRow_nil _ _ _ _, RowsV.nil⟩, Ext.refl _⟩
  | some a =>
    obtain ⟨vs, hvs, HN0⟩ : ∃ vs, RowsV B w l vs ∧ Hid (∀ (W : World) (hW : Ext w W), len = 0 ∨ ∃ a', some a = some a' ∧ ∀ j u, vs[j]? = some u → W.cell? (a'.add j) = some u) := by
      rcases hr with rfl | ⟨b, o, vs, he, hB, hlt, hvl, hr, hrow⟩
      · exact ⟨[], RowsV.nil, fun _ _ => .inl (by simpa using hlen)⟩
      · cases he
        exact ⟨vs, ⟨hvl, hrow⟩, fun W hW => .inr ⟨_, rfl, fun j u hu => by rw [Addr.add_mid]; exact World.rangeAt.later hW.later hr j u hu⟩⟩
    have HO := Lib.hid (owns_empty (e := 52) (k := 1) w)
    have HF := Lib.hid (show vs.length = len * 1 from by rw [hvs.1, hlen, Nat.mul_one])
    have H1 := Lib.hid hvs.one
    have HVS := Lib.hid hvs
    have hsz : w.heap.size ≤ (w.alloc (.cells #[] 52)).heap.size := by simp
    clear hr hlen hvs
    go_enter Tryd.func49, Tryd.ntmps49
    go_wp2_with (at_builtin; refine wpList_append_E elemR rfl _ _ rfl w.heap.size _ 0 [] rfl HO.out (some a) len cap vs rfl HF.out (HN0.out _ (Ext.alloc _ _)) H1.out (by omega) (by omega) hsz ?_; intro v' w' o1 g1 t1)
    go_ret
    have hxe := (Ext.alloc w (.cells #[] 52)).grownV g1 (fun i hi => by cases hi; exact Nat.le_refl _)
    refine ⟨_, rfl, ⟨vs, ?_, HVS.out.ext hxe⟩, hxe⟩
    rw [← HL.out]
    simpa using o1

theorem sortRows_any {B : Nat → Prop} (l : List RowD) (v : Value) (base : Nat) (vs : List Value) (w : World) (h : w.ownsRow base 52 1 v l.length vs) (hv : RowsV B w l vs) (hB : ∀ b, B b → v.ownBlock ≠ some b) (hl : l.length ≤ 1000000) :
    Calls Tryd.prog 50 #[v, .func (.func 36) #[] #[]] w fun e w' => e = .returned (.tuple #[]) ∧ ∃ l' vs', (l'.Perm l ∧ l'.Pairwise (fun a b => leR a b = true)) ∧ w'.ownsRow base 52 1 v l.length vs' ∧ RowsV B w' l' vs' ∧ w.grownBy w' v.ownBlock := by
  have eg : ∀ args w, (callFunc 36 args).run Tryd.prog w = .ok (.enter 36 args) w := enters_of Tryd.func36 (by kernel_rfl) rfl
  by_cases hnil : l = []
  · subst hnil
    obtain ⟨p, c, rfl, -⟩ := owns_form h
    refine (AnyF.slices_SortFunc_none { Tryd.sortR with } p c (.func (.func 36) #[] #[]) w).mono ?_
    rintro e w' ⟨he, rfl⟩
    exact ⟨he, [], vs, ⟨List.Perm.refl _, List.Pairwise.nil⟩, h, hv, ⟨rfl, rfl, rfl, Nat.le_refl _, fun _ _ _ => rfl⟩⟩
  rcases h.2 with ⟨rfl, h0⟩ | ⟨g, cap, cur, rfl, hb, hg, hn, hm, hs, ht⟩
  · exact absurd (List.length_eq_zero_iff.1 h0) hnil
  have hlt : g < w.heap.size := (Array.getElem?_eq_some_iff.1 hg).1
  have hr := ownsRow_range h
  let α := {p : RowD × Value // RowOn B w p.1 p.2}
  let _ : Inhabited α := ⟨⟨([], .slice none 0 0), RowOn.nil⟩⟩
  let enc : α → Value := fun p => p.1.2
  let cf : α → α → Int := fun p q => cmpR p.1.1 q.1.1
  let d : Array α := Array.ofFn (n := l.length) fun i => ⟨(l[i.1], vs[i.1]'(by rw [hv.1]; exact i.2)), hv.2 i.1 i.2 _⟩
  have hd : d.size = l.length := by simp [d]
  have hone : OneCell enc := fun x => by
    obtain ⟨p, cap, he, -⟩ := x.2.form
    show x.1.2.oneCell' = true
    rw [he]; rfl
  have hO : SWO (ltOf cf) := ⟨fun x => swoRk.irrefl x.1.1, fun x y z => swoRk.trans x.1.1 y.1.1 z.1.1, fun x y z => swoRk.ntrans x.1.1 y.1.1 z.1.1⟩
  have keepW : ∀ m (dk : Array α) os, w.grownBy (sortWorld enc w g 0 m dk os) (some g) := fun m dk os => by
    rw [sortWorld_map]; exact grown_put w g m _ os
  have hBg : ∀ b, B b → b ≠ g := fun b hb e => hB b hb (by rw [e]; rfl)
  have keepR : ∀ m (dk : Array α) os (x : α), RowOn B (sortWorld enc w g 0 m dk os) x.1.1 x.1.2 := fun m dk os x =>
    x.2.keep (keepW m dk os).size fun b hb hlt => (keepW m dk os).block b hlt (fun e => hBg b hb (by injection e))
  have hcl : CmpLays1 Tryd.prog 36 #[] enc cf g 0 d.size w := fun m os dk _ x y =>
    (order_any x.1.1 y.1.1 x.1.2 y.1.2 (sortWorld enc w g 0 m dk os) (keepR m dk os x) (keepR m dk os y)).mono fun e w' ⟨he, q, os', hw⟩ => ⟨he, q, os', hw⟩
  have hH : Holds enc w g 0 d := by
    intro j hj
    have hj1 : j < l.length := by rw [← hd]; exact hj
    have hj2 : j < vs.length := by rw [hv.1]; exact hj1
    refine ⟨?_, by simp [World.frozen?, hg]⟩
    rw [getElem!_pos d j hj]
    have e1 : enc d[j] = vs[j] := by simp [d, enc]
    rw [e1]
    exact hr j _ (List.getElem?_eq_getElem hj2)
  have hcon := Any.slices_SortFunc Tryd.sortR enc hone cf hO 36 #[] g 0 cap d w eg hcl hH hlt (by rw [hd]; omega)
  rw [hd] at hcon
  refine (show Calls Tryd.prog 50 #[.slice (some ⟨g, 0, none⟩) l.length cap, .func (.func 36) #[] #[]] w _ from hcon).mono ?_
  rintro e w' ⟨he, d', n, os, hp, hso, rfl⟩
  have hsz : d'.size = l.length := by rw [hp.1]; exact hd
  have hpm : d'.toList.Perm d.toList := by
    have := hp.2.2
    rw [show d'.extract 0 l.length = d' by rw [← hsz]; simp, show d.extract 0 l.length = d by rw [← hd]; simp] at this
    exact this
  have hdl : d.toList.map (fun p : α => p.1.1) = l := by
    apply List.ext_getElem
    · simp [hd]
    · intro i h1 h2
      simp [d]
  refine ⟨he, d'.toList.map (fun p : α => p.1.1), d'.toList.map enc, ⟨?_, ?_⟩, ?_, ⟨by simp, fun i h1 h2 => ?_⟩, keepW n d' os⟩
  · have := hpm.map (fun p : α => p.1.1)
    rwa [hdl] at this
  · rw [List.pairwise_map, List.pairwise_iff_getElem]
    intro i j hi hj hij
    have hi' : i < d'.size := by simpa using hi
    have hj' : j < d'.size := by simpa using hj
    have := hso i j (Nat.zero_le _) hij (by omega)
    rw [getElem!_pos d' i hi', getElem!_pos d' j hj'] at this
    have h3 : ¬ cmpR (d'[j]).1.1 (d'[i]).1.1 < 0 := by simpa [ltOf, cf] using this
    rw [cmpR_neg] at h3
    simpa [leR] using h3
  · rw [sortWorld_map]
    have := ownsRow_put (q := n) (F := d'.map enc) h (by simp [hsz]) os
    simpa using this
  · have := keepR n d' os (d'.toList[i]'(by simpa using h1))
    simpa [enc] using this

theorem sortedR_any {B : Nat → Prop} (l : List RowD) (v : Value) (w : World) (h : RowsOn B w l v) (hl : l.length ≤ 1000000) (hBw : ∀ b, B b → b < w.heap.size) :
    Calls Tryd.prog 35 #[v, .func (.func 36) #[] #[]] w fun e w' => ∃ u, e = .returned u ∧ ∃ l' vs', (l'.Perm l ∧ l'.Pairwise (fun a b => leR a b = true)) ∧ w'.ownsRow w.heap.size 52 1 u l'.length vs' ∧ RowsV B w' l' vs' ∧ Ext w w' := by
  have HC := Lib.hid (cloneR_any l v w h hl)
  have hv : ∃ p len cap, v = .slice p len cap := by obtain ⟨p, len, cap, he, -⟩ := h; exact ⟨p, len, cap, he⟩
  obtain ⟨p, len, cap, rfl⟩ := hv
  go_enter Tryd.func35, Tryd.ntmps35
  go_wp2_with fail
  refine HC.out.mono ?_
  rintro e w1 ⟨u, rfl, ⟨vs, hown, hvs⟩, hx⟩
  have HB := Lib.hid (fun i (hi : u.ownBlock = some i) => (owns_lt hown i hi).1)
  have HS := Lib.hid (sortRows_any l u _ vs w1 hown hvs (fun b hb e => by have := (owns_lt hown b e).1; have := hBw b hb; omega) hl)
  have HX := Lib.hid hx
  clear hown hx hvs
  go_wp2_with fail
  refine HS.out.mono ?_
  rintro e w2 ⟨rfl, l', vs', hs, hown2, hvs2, hg⟩
  have HP := Lib.hid (show ∃ l' vs', (l'.Perm l ∧ l'.Pairwise (fun a b => leR a b = true)) ∧ w2.ownsRow w.heap.size 52 1 u l'.length vs' ∧ RowsV B w2 l' vs' ∧ Ext w w2 from ⟨l', vs', hs, by rw [hs.1.length_eq]; exact hown2, hvs2, HX.out.grownV hg HB.out⟩)
  clear hs hown2 hg hvs2
  go_wp2_with fail
  go_ret
  exact ⟨_, rfl, HP.out⟩
end Go.Proofs.YtehdddilcakmlaaDoor

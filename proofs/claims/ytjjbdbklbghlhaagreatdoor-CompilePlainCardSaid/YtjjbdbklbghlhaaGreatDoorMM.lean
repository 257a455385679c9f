/- diagram.run: what a maker does, and how an error is left by and told. -/
import Derived.Test.YtjjbdbklbghlhaaGreatDoorML
import Derived.Test.YtjjbdbklbghlhaaGreatDoorMI
import Derived.Defers
import Derived.Recover
import Derived.Laws.EntriesVeiled
namespace Go.Proofs.YtjjbdbklbghlhaaGreatDoor
open Go.RowKit Go.Sort Go.Maps Go.Lib
set_option linter.unusedSimpArgs false

/-- a store with its laws -/
structure SD (F : Nat → Prop) (w : World) (p : Nat) (L : List NdD) : Prop where
 st : St F w p L
 inv : InvO L
 tb : ∃ w0, Tb w0 ∧ Ext w0 w ∧ ∀ b, F b → w0.heap.size ≤ b
theorem SD.ext {F : Nat → Prop} {w w' : World} {p : Nat} {L : List NdD} (h : SD F w p L) (hx : Ext w w') : SD F w' p L :=
 ⟨h.st.ext hx, h.inv, by obtain ⟨w0, t1, t2, t3⟩ := h.tb; exact ⟨w0, t1, t2.trans hx, t3⟩⟩
theorem SD.keep {F : Nat → Prop} {w w' : World} {p : Nat} {L : List NdD} {S : Nat → Prop} (h : SD F w p L) (hk : Keep S w w') (hS : ∀ b, F b → ¬ S b) (hn : ∀ w0 : World, (∀ b, F b → w0.heap.size ≤ b) → Ext w0 w → ∀ b, S b → w0.heap.size ≤ b) : SD F w' p L :=
 ⟨h.st.keep hk.size (fun b hb => hk.block b (h.st.lt b hb) (hS b hb)), h.inv, by
  obtain ⟨w0, t1, t2, t3⟩ := h.tb
  exact ⟨w0, t1, t2.andKeep hk (hn w0 t3 t2), t3⟩⟩
def DPost (F : Nat → Prop) (w : World) (p : Nat) (R : (Int × Int) × List NdD) (e : Ending) (w' : World) : Prop :=
 e = .returned (.tuple #[.int .i64 R.1.1, .int .i64 R.1.2]) ∧ ∃ F', SD F' w' p R.2 ∧ (∀ b, F' b → F b ∨ w.heap.size ≤ b) ∧ Keep F w w'
set_option maxHeartbeats 1000000 in
theorem runCatch_idle (a b : Addr) (w : World) :
  CallsD Tryz.prog 107 #[.pointer (some a), .pointer (some b)] .returning w fun e u' w' => e = .returned (.tuple #[]) ∧ u' = .returning ∧ w' = w := by
 refine callsD_of_wpS Tryz.func107 rfl fun c₀ cs hu => ?_
 apply wpS_seq
 apply wpS_region
 simp [wpOpsS, go_sem, recoverD, hu, Tryz.ntmps107, Exit.thenS]
 refine wpS_of_wp ?_
 go_wp2_with fail
 cases c₀
 simp_all [bodyPostS, results, Tryz.results107]

theorem assertStop (er : Int) (w : World) : (Instr.typeAssert (.iface 145 (.agg #[.int .i64 er])) 20 145 true).run Tryz.prog w = .ok (.tuple #[.agg #[.int .i64 er], .bool true]) w := by kernel_rfl
set_option maxRecDepth 100000 in
set_option maxHeartbeats 2000000 in
theorem runCatch_panicking (a b : Nat) (x y : Value) (er : Int) (older : List PanicEntry) (w : World) (ha : w.cell? ⟨a, 0, none⟩ = some x) (hb : w.cell? ⟨b, 0, none⟩ = some y) (hfa : w.frozen? ⟨a, 0, none⟩ = false) (hfb : w.frozen? ⟨b, 0, none⟩ = false) (hab : a ≠ b) :
  CallsD Tryz.prog 107 #[.pointer (some ⟨a, 0, none⟩), .pointer (some ⟨b, 0, none⟩)] (.panicking ({ v := .iface 145 (.agg #[.int .i64 er]), recovered := false } :: older)) w fun e u' w' =>
   e = .returned (.tuple #[]) ∧ u' = .panicking ({ v := .iface 145 (.agg #[.int .i64 er]), recovered := true } :: older) ∧
   Keep (fun i => i = a ∨ i = b) w w' ∧ w'.cell? ⟨a, 0, none⟩ = some (.int .i64 0) ∧ w'.cell? ⟨b, 0, none⟩ = some (.int .i64 er) := by
 have hba : b ≠ a := fun e => hab e.symm
 obtain ⟨wA, hA⟩ : ∃ W : World, w.alloc (.cells #[.int .i64 er] 145) = W := ⟨_, rfl⟩
 have hxa : Ext w wA := hA ▸ Ext.alloc _ _
 have hcx : wA.cell? ⟨w.heap.size, 0, none⟩ = some (.int .i64 er) := by rw [← hA]; simp [go_sem]
 have hca := hxa.later _ _ ha
 have hcb := hxa.later _ _ hb
 have hla := World.block_lt_of_cell? w _ ha
 have hlb := World.block_lt_of_cell? w _ hb
 have hga : wA.frozen? ⟨a, 0, none⟩ = false := by rw [Below.frozen hxa hla]; exact hfa
 have hgb : wA.frozen? ⟨b, 0, none⟩ = false := by rw [Below.frozen hxa hlb]; exact hfb
 have HEQ := Hd hA
 have HXA := Hd hxa
 refine callsD_of_wpS Tryz.func107 rfl fun c₀ cs hu => ?_
 apply wpS_seq
 apply wpS_region
 simp [wpOpsS, go_sem, recoverD, hu, Tryz.ntmps107, Exit.thenS]
 refine wpS_of_wp ?_
 simp only [Array.replicate_succ, Array.replicate_zero, List.push_toArray, List.append_toArray, List.nil_append, List.cons_append, List.setIfInBounds_toArray, List.set_cons_succ, List.set_cons_zero]
 have hta := assertStop er
 go_wp2_with fail
 clear HEQ
 go_region
 all_goals (
  trace_state
  go_wp2_with fail
  simp [bodyPostS, results, Tryz.results107]
  refine ⟨(HXA.out.keep _).trans (((Keep.set wA _ _ (.inl rfl)).trans (Keep.set _ _ _ (.inr rfl))).trans ((Ext.drew _).keep _)), ?_, ?_⟩
  ·rw [World.cell?_setCell_other _ _ _ _ (fun e => by injection e; omega)]
   exact World.cell?_setCell_same _ _ _ hca
  ·exact World.cell?_setCell_same _ _ _ (by rw [World.cell?_setCell_other _ _ _ _ (fun e => by injection e; omega)]; exact hcb))

theorem Keep.past {S T : Nat → Prop} {a b c : World} (h : Keep S a b) (k : Keep T b c) (ht : ∀ i, T i → S i ∨ a.heap.size ≤ i) : Keep S a c :=
 ⟨k.os.trans h.os, k.tape.trans h.tape, k.output.trans h.output, Nat.le_trans h.size k.size, fun i hi hs => (k.block i (Nat.lt_of_lt_of_le hi h.size) (fun hti => (ht i hti).elim hs (fun e => by omega))).trans (h.block i hi hs)⟩
theorem drun_fin {F F5 : Nat → Prop} {w wN w5 w' : World} {p mt : Nat} {L L' : List NdD} (hs : SD F w p L) (hx : Ext w wN) (hmt : w.heap.size ≤ mt) (hst : St F5 w5 p L') (hinv : InvO L') (hsub : ∀ b, F5 b → F b ∨ wN.heap.size ≤ b)
  (hkp : Keep (fun b => F b ∨ b = mt) wN w5) (hk : Keep (fun i => i = w.heap.size ∨ i = w.heap.size + 1) w5 w') (hsz : w.heap.size + 2 ≤ wN.heap.size) : SD F5 w' p L' ∧ (∀ b, F5 b → F b ∨ w.heap.size ≤ b) ∧ Keep F w w' := by
 have hlt := hs.st.lt
 refine ⟨⟨hst.keep hk.size (fun b hb => hk.block b (hst.lt b hb) (fun e => by rcases hsub b hb with h1 | h1; (have := hlt b h1; omega); omega)), hinv, ?_⟩, fun b hb => (hsub b hb).imp id (fun h1 => by omega), ?_⟩
 ·obtain ⟨w0, t1, t2, t3⟩ := hs.tb
  have h0 := t2.size
  exact ⟨w0, t1, ((t2.trans hx).andKeep hkp (fun i hi => by rcases hi with hi | hi; exact t3 i hi; omega)).andKeep hk (fun i hi => by omega), fun b hb => by rcases hsub b hb with h1 | h1; exact t3 b h1; omega⟩
 ·exact (Keep.past (hx.keep F) hkp (fun i hi => hi.imp id (fun e => by omega))).past hk (fun i hi => .inr (by omega))
set_option maxRecDepth 100000 in
set_option maxHeartbeats 8000000 in
theorem drun_any {F : Nat → Prop} (p : Nat) (L : List NdD) (fn : Nat) (caps : Array Value) (g : Nat) (l : List Int) (w : World) (h : SD F w p L) (R : Out) (hl : l.length ≤ 2) (hb : ∀ a ∈ l, -9223372036854775808 ≤ a ∧ a ≤ 9223372036854775807)
  (hg : w.rangeAt g 0 (l.map (.int .i64 ·)))
  (hent : ∀ args w, (callFunc fn args).run Tryz.prog w = .ok (.enter fn args) w)
  (hdo : okIds L l = true → ∀ W m mt, Ext w W → w.heap.size ≤ mt → Mk F W p m mt L [] → Calls Tryz.prog fn (#[.pointer (some ⟨m, 0, none⟩)] ++ caps) W (MPost F W p m mt R)) :
  Calls Tryz.prog 71 #[.pointer (some ⟨p, 0, none⟩), .func (.func fn) #[] caps, .slice (some ⟨g, 0, none⟩) l.length l.length] w (DPost F w p (runIds L l R)) := by
 have hmf : ∀ (fn : Fn) (first cap : Array Value) (w : World), (Instr.makeFunc fn first cap).run Tryz.prog w = .ok (.func fn first cap) w := fun _ _ _ _ => rfl
 have hmm := @run_makeMap Tryz.prog
 have HS := Hd h
 have HB := Hd hb
 have HDO := Hd hdo
 obtain ⟨wA, hA⟩ : ∃ W : World, w.alloc (.cells #[.int .i64 0] 3) = W := ⟨_, rfl⟩
 obtain ⟨wB, hB⟩ : ∃ W : World, wA.alloc (.cells #[.int .i64 0] 27) = W := ⟨_, rfl⟩
 have xA : Ext w wA := hA ▸ Ext.alloc _ _
 have xB : Ext wA wB := hB ▸ Ext.alloc _ _
 have sA : wA.heap.size = w.heap.size + 1 := by rw [← hA, World.size_alloc]
 have sB : wB.heap.size = w.heap.size + 1 + 1 := by rw [← hB, World.size_alloc, sA]
 have c0 : wB.cell? ⟨w.heap.size, 0, none⟩ = some (.int .i64 0) := xB.later _ _ (by rw [← hA]; simp [go_sem])
 have c1 : wB.cell? ⟨w.heap.size + 1, 0, none⟩ = some (.int .i64 0) := by rw [← hB, ← sA]; simp [go_sem]
 have f0 : wB.frozen? ⟨w.heap.size, 0, none⟩ = false := by rw [Below.frozen xB (by simp; omega), ← hA]; simp [go_sem]
 have f1 : wB.frozen? ⟨w.heap.size + 1, 0, none⟩ = false := by rw [← hB, ← sA]; simp [go_sem]
 have HXB := Hd (xA.trans xB)
 have HEQ := Hd (And.intro hA hB)
 have HSZ := Hd (And.intro sA sB)
 have HRC := Hd (show ∀ W, Ext wB W → (W.cell? ⟨w.heap.size, 0, none⟩ = some (.int .i64 0) ∧ W.cell? ⟨w.heap.size + 1, 0, none⟩ = some (.int .i64 0)) ∧ (W.frozen? ⟨w.heap.size, 0, none⟩ = false ∧ W.frozen? ⟨w.heap.size + 1, 0, none⟩ = false) from fun W hW =>
  ⟨⟨hW.later _ _ c0, hW.later _ _ c1⟩, by rw [Below.frozen hW (by simp; omega)]; exact f0, by rw [Below.frozen hW (by simp; omega)]; exact f1⟩)
 have HG := Hd (fun W (hW : Ext w W) => World.rangeAt.later hW.later hg)
 have HTO := Hd (show ∀ (W W' : World), Ext wB W → Keep (fun i => i = w.heap.size ∨ i = w.heap.size + 1) W W' → SD F W' p L ∧ Keep F w W' from fun W W' hW hk => by
  have hlt := h.st.lt
  have hx : Ext w W := (xA.trans xB).trans hW
  have hx2 : Ext w W' := hx.andKeep hk (fun i hi => by omega)
  exact ⟨h.ext hx2, hx2.keep F⟩)
 obtain ⟨n, hn⟩ : ∃ n, n = l.length := ⟨_, rfl⟩
 have HN := Hd hn
 have hn2 : n ≤ 2 := by omega
 rw [← hn]
 clear xA xB sA sB c0 c1 f0 f1 hA hB h hb hdo hg hn hl
 go_enter_defers Tryz.func71, Tryz.ntmps71
 go_upto_region 1 with fail
 simp only [HEQ.out.1, HEQ.out.2, HSZ.out.1]
 go_wp2_with fail
 go_loopw [16] (fun i wr => ∃ I : Nat, I ≤ n ∧ i = .int .i64 I ∧ Hid (okIds L (l.take I) = true) ∧ Hid (Ext wB wr)) (fun i _ => n - (intOf i).toNat)
 case atStart => exact ⟨0, Nat.zero_le _, rfl, by show okIds L (l.take 0) = true; rw [List.take_zero]; rfl, Ext.refl _⟩
 case round =>
  obtain ⟨wo, rfl⟩ : ∃ wo : World, wo = wr := ⟨_, rfl⟩
  obtain ⟨I, hI, rfl, hok, hx⟩ := hrel
  by_cases h1 : I < n
  case pos =>
   have hIl : I < l.length := by rw [← HN.out]; exact h1
   have hc := HG.out wo (HXB.out.trans hx.out) I (.int .i64 l[I]) (by simp [hIl])
   rw [Nat.zero_add] at hc
   have HTK := Hd (show okIds L (l.take (I + 1)) = (getP L l[I]).isSome from by
    have h3 := hok.out
    unfold okIds at *
    rw [List.take_succ_eq_append_getElem hIl, List.all_append, h3]
    simp)
   have HNO := Hd (show (getP L l[I]).isSome = false → okIds L l = false from fun e => by
    unfold okIds
    rw [List.all_eq_false]
    exact ⟨l[I], List.getElem_mem _, by rw [e]; simp⟩)
   have hbd := HB.out l[I] (List.getElem_mem _)
   generalize l[I] = a at *
   have HGE := Hd (getS_any p L a wo (HS.out.st.ext (HXB.out.trans hx.out)) hbd)
   clear hbd hok
   go_wp2_with fail
   refine HGE.out.mono ?_
   rintro e w3 ⟨⟨v3, rfl, hv3⟩, hx3⟩
   obtain ⟨lv, rfl, hlf⟩ := hv3
   obtain ⟨q3, n3, c3, rfl, -⟩ := id hlf
   generalize (getP L a).getD zNode = x at *
   obtain ⟨w4, h4⟩ : ∃ W : World, w3.alloc (.cells #[.int .i8 x.f, .int .u64 x.n, .int .i64 x.hi, .int .i64 x.lo, .slice q3 n3 c3] 42) = W := ⟨_, rfl⟩
   have x4 : Ext w3 w4 := h4 ▸ Ext.alloc _ _
   have HX4 := Hd ((hx.out.trans hx3).trans x4)
   have HE4 := Hd h4
   obtain ⟨bb, hbb⟩ : ∃ bb, bb = (getP L a).isSome := ⟨_, rfl⟩
   rw [← hbb] at HTK HNO ⊢
   clear h4 x4 hx3 hlf hbb HGE hx
   go_upto_region 7 with fail
   try simp only [Option.getD_some]
   rw [HE4.out]
   clear HE4
   obtain ⟨⟨c0, c1⟩, f0, f1⟩ := HRC.out w4 HX4.out
   cases bb with
   | true =>
    have HTT := Hd HTK.out
    clear hc c0 c1 f0 f1
    go_wp2_with fail
    go_roundw
    case rel => exact ⟨I + 1, by omega, by go_num, HTT.out, HX4.out⟩
    case measure => simp [intOf]; omega
   | false =>
    have HF := Hd (show runIds L l R = ((0, 5), L) from by unfold runIds; rw [HNO.out rfl]; rfl)
    clear hc
    go_wp2_with fail
    have hcA : ((w4.setCell ⟨w.heap.size, 0, none⟩ (.int .i64 0)).setCell ⟨w.heap.size + 1, 0, none⟩ (.int .i64 5)).cell? ⟨w.heap.size, 0, none⟩ = some (.int .i64 0) := by
     rw [World.cell?_setCell_other _ _ _ _ (fun e => by injection e; omega)]
     exact World.cell?_setCell_same _ _ _ c0
    have hcB : ((w4.setCell ⟨w.heap.size, 0, none⟩ (.int .i64 0)).setCell ⟨w.heap.size + 1, 0, none⟩ (.int .i64 5)).cell? ⟨w.heap.size + 1, 0, none⟩ = some (.int .i64 5) :=
     World.cell?_setCell_same _ _ _ (by rw [World.cell?_setCell_other _ _ _ _ (fun e => by injection e; omega)]; exact c1)
    simp [bodyPostD, Leaves, results, Tryz.results71, go_sem, hcA, hcB]
    obtain ⟨q1, q2⟩ := HTO.out w4 _ HX4.out ((Keep.set w4 ⟨w.heap.size, 0, none⟩ (.int .i64 0) (.inl rfl)).trans (Keep.set _ ⟨w.heap.size + 1, 0, none⟩ (.int .i64 5) (.inr rfl)))
    rw [HF.out]
    exact ⟨rfl, F, q1, fun b hb => .inl hb, q2⟩
  have HOKL := Hd (show okIds L l = true from by
   have h3 := hok.out
   rwa [List.take_of_length_le (by have := HN.out; omega)] at h3)
  obtain ⟨wM, hM⟩ : ∃ W : World, wo.alloc (.map #[] 0) = W := ⟨_, rfl⟩
  obtain ⟨wN, hNw⟩ : ∃ W : World, wM.alloc (.cells #[.pointer (some ⟨p, 0, none⟩), .map (some wo.heap.size)] 171) = W := ⟨_, rfl⟩
  have xM : Ext wo wM := hM ▸ Ext.alloc _ _
  have xN : Ext wM wN := hNw ▸ Ext.alloc _ _
  have sM : wM.heap.size = wo.heap.size + 1 := by rw [← hM, World.size_alloc]
  have HMK := Hd (show Mk F wN p wM.heap.size wo.heap.size L [] from by
   have hlt := HS.out.st.lt
   have hsx := (HXB.out.trans hx.out).size
   refine ⟨HS.out.st.ext ((HXB.out.trans hx.out).trans (xM.trans xN)), MapRaw.ext (by rw [← hM]; exact MapRaw.made wo) xN, List.Pairwise.nil, by rw [← hNw]; simp [go_sem], by rw [← hNw]; simp [go_sem], ⟨fun e => by have := hlt _ e; omega, fun e => by have := hlt _ e; omega, by omega⟩, HS.out.inv, ?_, fun k id hl => by simp [look] at hl⟩
   obtain ⟨w0, t1, t2, t3⟩ := HS.out.tb
   exact ⟨w0, t1, t2.trans ((HXB.out.trans hx.out).trans (xM.trans xN)), t3, by have := t2.size; omega⟩)
  have HDM := Hd (show Calls Tryz.prog fn (#[.pointer (some ⟨wo.heap.size + 1, 0, none⟩)] ++ caps) wN (MPost F wN p (wo.heap.size + 1) wo.heap.size R) from by rw [← sM]; exact HDO.out HOKL.out wN wM.heap.size wo.heap.size ((HXB.out.trans hx.out).trans (xM.trans xN)) (HXB.out.trans hx.out).size HMK.out)
  have HEQ2 := Hd (And.intro hM (And.intro hNw sM))
  have HXN := Hd (hx.out.trans (xM.trans xN))
  have HSN := Hd (show w.heap.size + 2 ≤ wN.heap.size ∧ w.heap.size + 2 ≤ wo.heap.size from by
   have h1 := HSZ.out.2
   have h2 := hx.out.size
   have h3 := (xM.trans xN).size
   omega)
  clear hM hNw xM xN sM hok hx
  go_wp2_with fail
  rw [HEQ2.out.1, HEQ2.out.2.1]
  refine HDM.out.mono ?_
  rintro e w5 ⟨he, F5, D5, hM5, hsub, hkp⟩
  have hF : runIds L l R = outD R := by unfold runIds; rw [HOKL.out]; rfl
  have hlt := HS.out.st.lt
  have nf : ∀ z, z = w.heap.size ∨ z = w.heap.size + 1 → ¬ (F z ∨ z = wo.heap.size) := fun z hz e => by
   have := HSN.out.2
   rcases e with e | e
   ·have := hlt z e; omega
   ·omega
  obtain ⟨⟨c0, c1⟩, f0, f1⟩ := HRC.out wN HXN.out
  have c0 := hkp.cell c0 (nf _ (.inl rfl))
  have c1 := hkp.cell c1 (nf _ (.inr rfl))
  have hN1 := HSN.out.1
  have f0 : w5.frozen? ⟨w.heap.size, 0, none⟩ = false := by rw [World.frozen?_of_block (hkp.block _ (by show w.heap.size < wN.heap.size; omega) (nf _ (.inl rfl)))]; exact f0
  have f1 : w5.frozen? ⟨w.heap.size + 1, 0, none⟩ = false := by rw [World.frozen?_of_block (hkp.block _ (by show w.heap.size + 1 < wN.heap.size; omega) (nf _ (.inr rfl)))]; exact f1
  have HFN := Hd (fun W' hk => drun_fin (w' := W') HS.out (HXB.out.trans HXN.out) (by have := HSN.out.2; omega) hM5.st hM5.inv hsub hkp hk hN1)
  by_cases hr : R.1.1 = 0
  case neg =>
   rw [endD_no hr] at he
   subst he
   have HF := Hd (show runIds L l R = ((0, R.1.1), R.2) from by rw [hF]; unfold outD; rw [if_neg hr])
   clear hr hF nf hM5 hsub hkp hlt
   go_wp2_with fail
   refine leaves_cons (f := 107) (args := #[.pointer (some ⟨w.heap.size, 0, none⟩), .pointer (some ⟨w.heap.size + 1, 0, none⟩)]) (by simp) (by simp [go_sem]) ?_
   refine (runCatch_panicking _ _ _ _ R.1.1 [] w5 c0 c1 f0 f1 (by omega)).mono ?_
   rintro e u' w6 ⟨rfl, rfl, hk3, h2, h3⟩
   simp [Leaves, settle, results, Tryz.results71, go_sem, h2, h3]
   obtain ⟨q1, q2, q3⟩ := HFN.out w6 hk3
   rw [HF.out]
   exact ⟨rfl, F5, q1, q2, q3⟩
  ·rw [hr, endD_ok] at he
   subst he
   have HF := Hd (show runIds L l R = (((R.1.2 : Int), 0), R.2) from by rw [hF]; unfold outD; rw [if_pos hr, hr])
   clear hr hF nf hM5 hsub hkp hlt
   go_wp2_with fail
   refine leaves_cons (f := 107) (args := #[.pointer (some ⟨w.heap.size, 0, none⟩), .pointer (some ⟨w.heap.size + 1, 0, none⟩)]) (by simp) (by simp [go_sem]) ?_
   refine (runCatch_idle _ _ _).mono ?_
   rintro e u' w6 ⟨rfl, rfl, rfl⟩
   have hcA : ((w5.setCell ⟨w.heap.size, 0, none⟩ (.int .i64 R.1.2)).setCell ⟨w.heap.size + 1, 0, none⟩ (.int .i64 0)).cell? ⟨w.heap.size, 0, none⟩ = some (.int .i64 R.1.2) := by
    rw [World.cell?_setCell_other _ _ _ _ (fun e => by injection e; omega)]
    exact World.cell?_setCell_same _ _ _ c0
   have hcB : ((w5.setCell ⟨w.heap.size, 0, none⟩ (.int .i64 R.1.2)).setCell ⟨w.heap.size + 1, 0, none⟩ (.int .i64 0)).cell? ⟨w.heap.size + 1, 0, none⟩ = some (.int .i64 0) :=
    World.cell?_setCell_same _ _ _ (by rw [World.cell?_setCell_other _ _ _ _ (fun e => by injection e; omega)]; exact c1)
   simp [Leaves, settle, results, Tryz.results71, go_sem, hcA, hcB]
   obtain ⟨q1, q2, q3⟩ := HFN.out _ ((Keep.set w5 ⟨w.heap.size, 0, none⟩ (.int .i64 R.1.2) (.inl rfl)).trans (Keep.set _ ⟨w.heap.size + 1, 0, none⟩ (.int .i64 0) (.inr rfl)))
   rw [HF.out]
   exact ⟨rfl, F5, q1, q2, q3⟩
end Go.Proofs.YtjjbdbklbghlhaaGreatDoor
/- diagram.Union, Then, Not. -/
namespace Go.Proofs.YtjjbdbklbghlhaaGreatDoor
open Go.RowKit Go.Sort Go.Maps Go.Lib
set_option linter.unusedSimpArgs false

theorem MPost.pan {F : Nat → Prop} {w : World} {p m mt : Nat} {R : Out} {e : Ending} {w' : World} (h : MPost F w p m mt R e w') : (R.1.1 = 0 ∧ e = .returned (.int .i64 R.1.2)) ∨ (R.1.1 ≠ 0 ∧ e = .panicked (stopC R.1.1)) := by
 by_cases hr : R.1.1 = 0
 ·exact .inl ⟨hr, by rw [h.1, hr]; exact endD_ok _⟩
 ·exact .inr ⟨hr, by rw [h.1]; exact endD_no hr _⟩

set_option maxHeartbeats 4000000 in
theorem dunionC_any {F : Nat → Prop} (p m mt : Nat) (L : List NdD) (D : List (Dk × Nat)) (a b : Nat) (w : World) (ha : a < L.length) (hb : b < L.length) (h : Mk F w p m mt L D) (b1 b2 : Nat) (h1 : w.cell? ⟨b1, 0, none⟩ = some (.int .i64 a)) (h2 : w.cell? ⟨b2, 0, none⟩ = some (.int .i64 b)) :
  Calls Tryz.prog 76 #[.pointer (some ⟨m, 0, none⟩), .pointer (some ⟨b1, 0, none⟩), .pointer (some ⟨b2, 0, none⟩)] w (MPost F w p m mt (unionP (a + b + 1) L a b)) := by
 have HC := Hd (dunion_any (a + b + 1) F p m mt L D a b w (by omega) ha hb h)
 generalize unionP (a + b + 1) L a b = R at *
 clear h ha hb
 go_enter Tryz.func76, Tryz.ntmps76
 go_wp2_with fail
 refine HC.out.mono ?_
 intro e w5 hp
 have HP := Hd hp
 rcases hp.pan with ⟨hr, rfl⟩ | ⟨hr, rfl⟩
 ·have HFIN := Hd (show MPost F w p m mt R (.returned (.int .i64 R.1.2)) w5 from HP.out)
  clear hp hr HP
  generalize R.1.2 = rr at *
  go_wp2_with fail
  go_ret
  exact HFIN.out
 ·have HFIN := Hd (show MPost F w p m mt R (.panicked (stopC R.1.1)) w5 from HP.out)
  clear hp hr HP
  go_wp2_with fail
  exact ⟨rfl, HFIN.out⟩

set_option maxHeartbeats 4000000 in
theorem dthenC_any {F : Nat → Prop} (p m mt : Nat) (L : List NdD) (D : List (Dk × Nat)) (a b : Nat) (w : World) (ha : a < L.length) (hb : b < L.length) (h : Mk F w p m mt L D) (b1 b2 : Nat) (h1 : w.cell? ⟨b1, 0, none⟩ = some (.int .i64 a)) (h2 : w.cell? ⟨b2, 0, none⟩ = some (.int .i64 b)) :
  Calls Tryz.prog 74 #[.pointer (some ⟨m, 0, none⟩), .pointer (some ⟨b1, 0, none⟩), .pointer (some ⟨b2, 0, none⟩)] w (MPost F w p m mt (thenP (a + 1) L a b)) := by
 have HC := Hd (dthen_any (a + 1) F p m mt L D a b w (by omega) ha hb h)
 generalize thenP (a + 1) L a b = R at *
 clear h ha hb
 go_enter Tryz.func74, Tryz.ntmps74
 go_wp2_with fail
 refine HC.out.mono ?_
 intro e w5 hp
 have HP := Hd hp
 rcases hp.pan with ⟨hr, rfl⟩ | ⟨hr, rfl⟩
 ·have HFIN := Hd (show MPost F w p m mt R (.returned (.int .i64 R.1.2)) w5 from HP.out)
  clear hp hr HP
  generalize R.1.2 = rr at *
  go_wp2_with fail
  go_ret
  exact HFIN.out
 ·have HFIN := Hd (show MPost F w p m mt R (.panicked (stopC R.1.1)) w5 from HP.out)
  clear hp hr HP
  go_wp2_with fail
  exact ⟨rfl, HFIN.out⟩

set_option maxHeartbeats 4000000 in
theorem dnotC_any {F : Nat → Prop} (p m mt : Nat) (L : List NdD) (D : List (Dk × Nat)) (a : Nat) (w : World) (ha : a < L.length) (h : Mk F w p m mt L D) (b1 : Nat) (h1 : w.cell? ⟨b1, 0, none⟩ = some (.int .i64 a))  :
  Calls Tryz.prog 72 #[.pointer (some ⟨m, 0, none⟩), .pointer (some ⟨b1, 0, none⟩)] w (MPost F w p m mt (notP (a + 1) L a)) := by
 have HC := Hd (dnot_any (a + 1) F p m mt L D a w (by omega) ha h)
 generalize notP (a + 1) L a = R at *
 clear h ha 
 go_enter Tryz.func72, Tryz.ntmps72
 go_wp2_with fail
 refine HC.out.mono ?_
 intro e w5 hp
 have HP := Hd hp
 rcases hp.pan with ⟨hr, rfl⟩ | ⟨hr, rfl⟩
 ·have HFIN := Hd (show MPost F w p m mt R (.returned (.int .i64 R.1.2)) w5 from HP.out)
  clear hp hr HP
  generalize R.1.2 = rr at *
  go_wp2_with fail
  go_ret
  exact HFIN.out
 ·have HFIN := Hd (show MPost F w p m mt R (.panicked (stopC R.1.1)) w5 from HP.out)
  clear hp hr HP
  go_wp2_with fail
  exact ⟨rfl, HFIN.out⟩

theorem SD.back {F : Nat → Prop} {w w1 w' : World} {p : Nat} {R : (Int × Int) × List NdD} {e : Ending} (hx : Ext w w1) (h : DPost F w1 p R e w') : DPost F w p R e w' := by
 obtain ⟨he, F', h1, h2, h3⟩ := h
 exact ⟨he, F', h1, fun b hb => (h2 b hb).imp id fun h => Nat.le_trans hx.size h, (hx.keep _).trans h3⟩
def unionTP (L : List NdD) (a b : Int) : Out := unionP (a.toNat + b.toNat + 1) L a.toNat b.toNat
def thenTP (L : List NdD) (a b : Int) : Out := thenP (a.toNat + 1) L a.toNat b.toNat

set_option maxRecDepth 100000 in
set_option maxHeartbeats 4000000 in
theorem dUnion_any {F : Nat → Prop} (p : Nat) (L : List NdD) (a b : Int) (w : World) (h : SD F w p L) (ha : -9223372036854775808 ≤ a ∧ a ≤ 9223372036854775807) (hb : -9223372036854775808 ≤ b ∧ b ≤ 9223372036854775807) :
  Calls Tryz.prog 47 #[.pointer (some ⟨p, 0, none⟩), .int .i64 a, .int .i64 b] w (DPost F w p (unionT L a b)) := by
 have hmf : ∀ (fn : Fn) (first cap : Array Value) (w : World), (Instr.makeFunc fn first cap).run Tryz.prog w = .ok (.func fn first cap) w := fun _ _ _ _ => rfl
 obtain ⟨w1, h1⟩ : ∃ W : World, w.alloc (.cells #[.int .i64 a] 3) = W := ⟨_, rfl⟩
 obtain ⟨w2, h2⟩ : ∃ W : World, w1.alloc (.cells #[.int .i64 b] 3) = W := ⟨_, rfl⟩
 obtain ⟨w3, h3⟩ : ∃ W : World, w2.alloc (.cells #[.int .i64 a, .int .i64 b] 3) = W := ⟨_, rfl⟩
 have x1 : Ext w w1 := h1 ▸ Ext.alloc _ _
 have x2 : Ext w1 w2 := h2 ▸ Ext.alloc _ _
 have x3 : Ext w2 w3 := h3 ▸ Ext.alloc _ _
 have s1 : w1.heap.size = w.heap.size + 1 := by rw [← h1, World.size_alloc]
 have s2 : w2.heap.size = w.heap.size + 1 + 1 := by rw [← h2, World.size_alloc, s1]
 have c0 : w3.cell? ⟨w.heap.size, 0, none⟩ = some (.int .i64 a) := (x2.trans x3).later _ _ (by rw [← h1]; simp [go_sem])
 have c1 : w3.cell? ⟨w.heap.size + 1, 0, none⟩ = some (.int .i64 b) := x3.later _ _ (by rw [← h2, ← s1]; simp [go_sem])
 have hr : w3.rangeAt (w.heap.size + 1 + 1) 0 ([a, b].map (.int .i64 ·)) := by
  rw [← h3, ← s2]
  exact rangeAt_new w2 #[.int .i64 a, .int .i64 b] 3
 have HRU := Hd (drun_any p L 76 #[.pointer (some ⟨w.heap.size, 0, none⟩), .pointer (some ⟨w.heap.size + 1, 0, none⟩)] (w.heap.size + 1 + 1) [a, b] w3 (h.ext (x1.trans (x2.trans x3))) (unionTP L a b) (by simp) (fun x hx => by simp at hx; rcases hx with rfl | rfl; exact ha; exact hb) hr
  (enters_of Tryz.func76 (by kernel_rfl) rfl)
  (fun hok W m mt hW _ hM => by
   obtain ⟨⟨ea, la⟩, eb, lb⟩ := okIds_two hok
   have d0 := hW.later _ _ c0
   have d1 := hW.later _ _ c1
   rw [ea] at d0
   rw [eb] at d1
   exact dunionC_any p m mt L [] a.toNat b.toNat W la lb hM _ _ d0 d1))
 have HEQ := Hd (And.intro h1 (And.intro h2 h3))
 have HSZ := Hd (And.intro s1 s2)
 have HX := Hd (x1.trans (x2.trans x3))
 have HC := Hd (And.intro c0 c1)
 have HD := Hd (show w2.cell? ⟨w.heap.size, 0, none⟩ = some (.int .i64 a) ∧ w2.cell? ⟨w.heap.size + 1, 0, none⟩ = some (.int .i64 b) from ⟨x2.later _ _ (by rw [← h1]; simp [go_sem]), by rw [← h2, ← s1]; simp [go_sem]⟩)
 clear x1 x2 x3 s1 s2 c0 c1 hr h1 h2 h3
 go_enter Tryz.func47, Tryz.ntmps47
 go_wp2_with fail
 try simp only [HEQ.out.1, HEQ.out.2.1, HEQ.out.2.2, HSZ.out.1, HSZ.out.2]
 refine HRU.out.mono ?_
 intro e w5 hp
 have HP := Hd (SD.back HX.out hp)
 have he := hp.1
 subst he
 have HFIN := Hd (show DPost F w p (unionT L a b) (.returned (.tuple #[.int .i64 (unionT L a b).1.1, .int .i64 (unionT L a b).1.2])) w5 from HP.out)
 clear hp HP
 change Hid (DPost F w p (unionT L a b) _ w5) at HFIN
 go_wp2_with fail
 go_ret2
 exact HFIN.out

set_option maxRecDepth 100000 in
set_option maxHeartbeats 4000000 in
theorem dThen_any {F : Nat → Prop} (p : Nat) (L : List NdD) (a b : Int) (w : World) (h : SD F w p L) (ha : -9223372036854775808 ≤ a ∧ a ≤ 9223372036854775807) (hb : -9223372036854775808 ≤ b ∧ b ≤ 9223372036854775807) :
  Calls Tryz.prog 46 #[.pointer (some ⟨p, 0, none⟩), .int .i64 a, .int .i64 b] w (DPost F w p (thenT L a b)) := by
 have hmf : ∀ (fn : Fn) (first cap : Array Value) (w : World), (Instr.makeFunc fn first cap).run Tryz.prog w = .ok (.func fn first cap) w := fun _ _ _ _ => rfl
 obtain ⟨w1, h1⟩ : ∃ W : World, w.alloc (.cells #[.int .i64 a] 3) = W := ⟨_, rfl⟩
 obtain ⟨w2, h2⟩ : ∃ W : World, w1.alloc (.cells #[.int .i64 b] 3) = W := ⟨_, rfl⟩
 obtain ⟨w3, h3⟩ : ∃ W : World, w2.alloc (.cells #[.int .i64 a, .int .i64 b] 3) = W := ⟨_, rfl⟩
 have x1 : Ext w w1 := h1 ▸ Ext.alloc _ _
 have x2 : Ext w1 w2 := h2 ▸ Ext.alloc _ _
 have x3 : Ext w2 w3 := h3 ▸ Ext.alloc _ _
 have s1 : w1.heap.size = w.heap.size + 1 := by rw [← h1, World.size_alloc]
 have s2 : w2.heap.size = w.heap.size + 1 + 1 := by rw [← h2, World.size_alloc, s1]
 have c0 : w3.cell? ⟨w.heap.size, 0, none⟩ = some (.int .i64 a) := (x2.trans x3).later _ _ (by rw [← h1]; simp [go_sem])
 have c1 : w3.cell? ⟨w.heap.size + 1, 0, none⟩ = some (.int .i64 b) := x3.later _ _ (by rw [← h2, ← s1]; simp [go_sem])
 have hr : w3.rangeAt (w.heap.size + 1 + 1) 0 ([a, b].map (.int .i64 ·)) := by
  rw [← h3, ← s2]
  exact rangeAt_new w2 #[.int .i64 a, .int .i64 b] 3
 have HRU := Hd (drun_any p L 74 #[.pointer (some ⟨w.heap.size, 0, none⟩), .pointer (some ⟨w.heap.size + 1, 0, none⟩)] (w.heap.size + 1 + 1) [a, b] w3 (h.ext (x1.trans (x2.trans x3))) (thenTP L a b) (by simp) (fun x hx => by simp at hx; rcases hx with rfl | rfl; exact ha; exact hb) hr
  (enters_of Tryz.func74 (by kernel_rfl) rfl)
  (fun hok W m mt hW _ hM => by
   obtain ⟨⟨ea, la⟩, eb, lb⟩ := okIds_two hok
   have d0 := hW.later _ _ c0
   have d1 := hW.later _ _ c1
   rw [ea] at d0
   rw [eb] at d1
   exact dthenC_any p m mt L [] a.toNat b.toNat W la lb hM _ _ d0 d1))
 have HEQ := Hd (And.intro h1 (And.intro h2 h3))
 have HSZ := Hd (And.intro s1 s2)
 have HX := Hd (x1.trans (x2.trans x3))
 have HC := Hd (And.intro c0 c1)
 have HD := Hd (show w2.cell? ⟨w.heap.size, 0, none⟩ = some (.int .i64 a) ∧ w2.cell? ⟨w.heap.size + 1, 0, none⟩ = some (.int .i64 b) from ⟨x2.later _ _ (by rw [← h1]; simp [go_sem]), by rw [← h2, ← s1]; simp [go_sem]⟩)
 clear x1 x2 x3 s1 s2 c0 c1 hr h1 h2 h3
 go_enter Tryz.func46, Tryz.ntmps46
 go_wp2_with fail
 try simp only [HEQ.out.1, HEQ.out.2.1, HEQ.out.2.2, HSZ.out.1, HSZ.out.2]
 refine HRU.out.mono ?_
 intro e w5 hp
 have HP := Hd (SD.back HX.out hp)
 have he := hp.1
 subst he
 have HFIN := Hd (show DPost F w p (thenT L a b) (.returned (.tuple #[.int .i64 (thenT L a b).1.1, .int .i64 (thenT L a b).1.2])) w5 from HP.out)
 clear hp HP
 change Hid (DPost F w p (thenT L a b) _ w5) at HFIN
 go_wp2_with fail
 go_ret2
 exact HFIN.out

set_option maxRecDepth 100000 in
set_option maxHeartbeats 4000000 in
theorem dNot_any {F : Nat → Prop} (p : Nat) (L : List NdD) (a : Int) (w : World) (h : SD F w p L) (ha : -9223372036854775808 ≤ a ∧ a ≤ 9223372036854775807) :
  Calls Tryz.prog 44 #[.pointer (some ⟨p, 0, none⟩), .int .i64 a] w (DPost F w p (notT L a)) := by
 have hmf : ∀ (fn : Fn) (first cap : Array Value) (w : World), (Instr.makeFunc fn first cap).run Tryz.prog w = .ok (.func fn first cap) w := fun _ _ _ _ => rfl
 obtain ⟨w1, h1⟩ : ∃ W : World, w.alloc (.cells #[.int .i64 a] 3) = W := ⟨_, rfl⟩
 obtain ⟨w3, h3⟩ : ∃ W : World, w1.alloc (.cells #[.int .i64 a] 3) = W := ⟨_, rfl⟩
 have x1 : Ext w w1 := h1 ▸ Ext.alloc _ _
 have x3 : Ext w1 w3 := h3 ▸ Ext.alloc _ _
 have s1 : w1.heap.size = w.heap.size + 1 := by rw [← h1, World.size_alloc]
 have c0 : w3.cell? ⟨w.heap.size, 0, none⟩ = some (.int .i64 a) := x3.later _ _ (by rw [← h1]; simp [go_sem])
 have hr : w3.rangeAt (w.heap.size + 1) 0 ([a].map (.int .i64 ·)) := by
  rw [← h3, ← s1]
  exact rangeAt_new w1 #[.int .i64 a] 3
 have HRU := Hd (drun_any p L 72 #[.pointer (some ⟨w.heap.size, 0, none⟩)] (w.heap.size + 1) [a] w3 (h.ext (x1.trans x3)) (notP (a.toNat + 1) L a.toNat) (by simp) (fun x hx => by simp at hx; subst hx; exact ha) hr
  (enters_of Tryz.func72 (by kernel_rfl) rfl)
  (fun hok W m mt hW _ hM => by
   obtain ⟨ea, la⟩ := okIds_one hok
   have d0 := hW.later _ _ c0
   rw [ea] at d0
   exact dnotC_any p m mt L [] a.toNat W la hM _ d0))
 have HEQ := Hd (And.intro h1 h3)
 have HSZ := Hd s1
 have HX := Hd (x1.trans x3)
 have HC := Hd c0
 clear x1 x3 s1 c0 hr h1 h3
 go_enter Tryz.func44, Tryz.ntmps44
 go_wp2_with fail
 try simp only [HEQ.out.1, HEQ.out.2, HSZ.out]
 refine HRU.out.mono ?_
 intro e w5 hp
 have HP := Hd (SD.back HX.out hp)
 have he := hp.1
 subst he
 have HFIN := Hd (show DPost F w p (notT L a) (.returned (.tuple #[.int .i64 (notT L a).1.1, .int .i64 (notT L a).1.2])) w5 from HP.out)
 clear hp HP
 change Hid (DPost F w p (notT L a) _ w5) at HFIN
 go_wp2_with fail
 go_ret2
 exact HFIN.out
end Go.Proofs.YtjjbdbklbghlhaaGreatDoor
/- diagram.Star, and what no store tells. -/
namespace Go.Proofs.YtjjbdbklbghlhaaGreatDoor
open Go.RowKit Go.Sort Go.Maps Go.Lib
set_option linter.unusedSimpArgs false

set_option maxHeartbeats 8000000 in
set_option maxRecDepth 100000 in
theorem dstarC_any {F : Nat → Prop} (p m mt : Nat) (L : List NdD) (D : List (Dk × Nat)) (a : Nat) (w : World) (ha : a < L.length) (h : Mk F w p m mt L D) (b1 b2 : Nat) (h1 : Boxes F mt w b1 (.pointer (some ⟨p, 0, none⟩))) (h2 : Boxes F mt w b2 (.int .i64 a)) :
  Calls Tryz.prog 78 #[.pointer (some ⟨m, 0, none⟩), .pointer (some ⟨b1, 0, none⟩), .pointer (some ⟨b2, 0, none⟩)] w (MPost F w p m mt (starP L a)) := by
 have HM := Hd h
 have HA := Hd ha
 have HBX := Hd (And.intro h1 h2)
 have HUP := Hd (show starP L a = bindR (leafR L [[]]) fun id L1 => starLoop 64 L1 id a id from rfl)
 generalize starP L a = R at *
 obtain ⟨wA, hA⟩ : ∃ W : World, w.alloc (.cells #[] 81) = W := ⟨_, rfl⟩
 obtain ⟨wB, hB⟩ : ∃ W : World, wA.alloc (.cells #[.slice (some ⟨w.heap.size, 0, none⟩) 0 0] 78) = W := ⟨_, rfl⟩
 have xA : Ext w wA := hA ▸ Ext.alloc _ _
 have xB : Ext wA wB := hB ▸ Ext.alloc _ _
 have sA : wA.heap.size = w.heap.size + 1 := by rw [← hA, World.size_alloc]
 have sB : wB.heap.size = wA.heap.size + 1 := by rw [← hB, World.size_alloc]
 have hcB : wB.cell? ⟨wA.heap.size, 0, none⟩ = some (.slice (some ⟨w.heap.size, 0, none⟩) 0 0) := by rw [← hB]; simp [go_sem]
 rw [sA] at hcB
 have HMB := Hd (h.ext (xA.trans xB))
 have HXB := Hd (xA.trans xB)
 have HLEAF := Hd (leafS_any p L [[]] (.slice (some ⟨w.heap.size + 1, 0, none⟩) 1 1) wB HMB.out.st (rowsOneNil (B := AnyB) wB (w.heap.size + 1) _ (by omega) trivial hcB) (by simp) (fun r hr => by simp at hr; subst hr; simp) HMB.out.tab)
 obtain ⟨T, hT⟩ : ∃ T, T = leafP L [[]] := ⟨_, rfl⟩
 have HTR := Hd (show leafR L [[]] = ((T.1.2, T.1.1.toNat), T.2) from by rw [hT]; rfl)
 have HTN := Hd (show T.1.2 = 0 → T.1.1 = ((T.1.1.toNat : Nat) : Int) from fun h5 => by rw [hT] at h5 ⊢; exact leafP_nn h5)
 have htf := leafR_fine h.inv [[]]
 rw [HTR.out] at htf
 have HTF := Hd htf
 rw [← hT] at HLEAF
 have HEQ := Hd (And.intro hA hB)
 have k1 := h1.c
 clear hA hB xA xB sA sB hcB h h1 h2 ha hT htf
 go_enter Tryz.func78, Tryz.ntmps78
 go_wp2_with fail
 rw [HEQ.out.1, HEQ.out.2]
 refine HLEAF.out.mono ?_
 rintro e w5 ⟨rfl, F5, hto⟩
 have HM5 := Hd (HMB.out.op hto HTF.out.pre HTF.out.inv)
 have HW5 := Hd ((Went.ofExt (F := F) (mt := mt) HXB.out).trans (Went.op hto))
 have HMU := Hd (dmust_any T.1.1 T.1.2 w5)
 clear hto k1
 go_wp2_with fail
 refine HMU.out.mono ?_
 rintro e w6 ⟨he, rfl⟩
 by_cases r3 : T.1.2 = 0
 case neg =>
  rw [endD_no r3] at he
  subst he
  have HFIN := Hd (show MPost F w p m mt R (.panicked (stopC T.1.2)) w5 from by
   rw [HUP.out, HTR.out]
   unfold bindR
   rw [if_neg r3]
   exact ⟨(endD_no r3 _).symm, F5, D, HM5.out, HW5.out.1, HW5.out.2⟩)
  clear r3
  go_wp2_with fail
  exact ⟨rfl, HFIN.out⟩
 rw [r3, endD_ok] at he
 subst he
 have HR := Hd (show R = starLoop 64 T.2 T.1.1.toNat a T.1.1.toNat from by
  rw [HUP.out, HTR.out]
  unfold bindR
  rw [if_pos r3])
 have hid := HTF.out.lt r3
 have hal : a < T.2.length := Nat.lt_of_lt_of_le HA.out HTF.out.pre.length_le
 have HTE := Hd (HTN.out r3)
 obtain ⟨id, hide⟩ : ∃ id, id = T.1.1.toNat := ⟨_, rfl⟩
 dsimp only at hid
 rw [← hide] at HTE HR hid
 rw [HTE.out]
 have HST := Hd (show id < T.2.length ∧ a < T.2.length from ⟨hid, hal⟩)
 clear r3 hide HTE HTN HTR HUP HMU HLEAF hid hal
 go_wp2_with fail
 go_loopw [6, 16] (fun ov i wr => ∃ (I out : Nat) (F' : Nat → Prop) (D' : List (Dk × Nat)) (L' : List NdD), I ≤ 64 ∧ i = .int .i64 I ∧ ov = .int .i64 out ∧ Hid (R = starLoop (64 - I) L' id a out) ∧ Hid (Mk F' wr p m mt L' D') ∧ Hid (Went F mt w F' wr) ∧ Hid (id < L'.length ∧ a < L'.length ∧ out < L'.length)) (fun _ i _ => 64 - (intOf i).toNat)
 case atStart => exact ⟨0, id, F5, D, T.2, by omega, rfl, rfl, HR.out, HM5.out, HW5.out, HST.out.1, HST.out.2, HST.out.1⟩
 case round =>
  obtain ⟨wo, rfl⟩ : ∃ wo : World, wo = wr := ⟨_, rfl⟩
  obtain ⟨I, out, F', D', L', hI, rfl, rfl, hR, hM', hW', hl'⟩ := hrel
  by_cases h1 : I < 64
  case neg =>
   have HFIN := Hd (show MPost F w p m mt R (.panicked (stopC 200)) wo from by
    rw [hR.out, show 64 - I = 0 from by omega]
    exact ⟨(endD_no (show (200 : Int) ≠ 0 by decide) _).symm, F', D', hM'.out, hW'.out.1, hW'.out.2⟩)
   clear hR hM' hW' hl' HR HM5 HW5
   go_wp2_with fail
   exact ⟨rfl, HFIN.out⟩
  obtain ⟨R1, hR1⟩ : ∃ R1, R1 = thenP (out + 1) L' out a := ⟨_, rfl⟩
  obtain ⟨R2, hR2⟩ : ∃ R2, R2 = unionP (id + R1.1.2 + 1) R1.2 id R1.1.2 := ⟨_, rfl⟩
  have hfn1 : Fine L' R1 := by rw [hR1]; exact thenP_fine hM'.out.inv hl'.out.2.2 hl'.out.2.1
  have HFN1 := Hd hfn1
  have HSE := Hd (show R = bindR (bindR R1 fun t L1 => unionP (id + t + 1) L1 id t) fun nx L2 => if nx = out then ((0, out), L2) else starLoop (64 - (I + 1)) L2 id a nx from by
   rw [hR.out, show 64 - I = (64 - (I + 1)) + 1 from by omega, starLoop]
   unfold starR
   rw [← hR1])
  have HC1 := Hd (show Calls Tryz.prog 75 #[.pointer (some ⟨m, 0, none⟩), .int .i64 out, .int .i64 a] wo (MPost F' wo p m mt R1) from by
   rw [hR1]; exact dthen_any (out + 1) F' p m mt L' D' out a wo (by omega) hl'.out.2.2 hl'.out.2.1 hM'.out)
  have k2 := (HBX.out.2.keep hW'.out.1 hW'.out.2).c
  have HE2 := Hd hR2
  clear hR1 hR2 hfn1 hR HR HM5 HW5
  go_wp2_with fail
  refine HC1.out.mono ?_
  intro e w7 hp
  have HP := Hd hp
  rcases hp.pan with ⟨r1, rfl⟩ | ⟨r1, rfl⟩
  case inr =>
   have HFIN := Hd (show MPost F w p m mt R (.panicked (stopC R1.1.1)) w7 from by
    obtain ⟨he, F7, D7, m7, s7, k7⟩ := HP.out
    have hw := hW'.out.trans ⟨s7, k7⟩
    rw [HSE.out]
    unfold bindR
    rw [if_neg r1, if_neg r1]
    exact ⟨(endD_no r1 _).symm, F7, D7, m7, hw.1, hw.2⟩)
   clear hp r1 HP k2
   go_wp2_with fail
   exact ⟨rfl, HFIN.out⟩
  obtain ⟨he, F7, D7, m7, s7, k7⟩ := hp
  have hW7 := hW'.out.trans ⟨s7, k7⟩
  have HW7 := Hd hW7
  have HC2 := Hd (show Calls Tryz.prog 77 #[.pointer (some ⟨m, 0, none⟩), .int .i64 id, .int .i64 R1.1.2] w7 (MPost F7 w7 p m mt R2) from by
   rw [HE2.out]; exact dunion_any _ F7 p m mt R1.2 D7 id R1.1.2 w7 (by omega) (by have := HFN1.out.pre.length_le; have := hl'.out; omega) (HFN1.out.lt r1) m7)
  have HFN2 := Hd (show Fine R1.2 R2 from by rw [HE2.out]; exact unionP_fine HFN1.out.inv (by have := HFN1.out.pre.length_le; have := hl'.out; omega) (HFN1.out.lt r1))
  have HS2 := Hd (show R = bindR R2 fun nx L2 => if nx = out then ((0, out), L2) else starLoop (64 - (I + 1)) L2 id a nx from by
   have h5 : (bindR R1 fun t L1 => unionP (id + t + 1) L1 id t) = R2 := by
    unfold bindR
    rw [if_pos r1, HE2.out]
   rw [HSE.out, h5])
  clear he m7 s7 k7 hW7 HP r1 k2
  go_wp2_with fail
  refine HC2.out.mono ?_
  intro e w8 hp
  have HP := Hd hp
  rcases hp.pan with ⟨r2, rfl⟩ | ⟨r2, rfl⟩
  case inr =>
   have HFIN := Hd (show MPost F w p m mt R (.panicked (stopC R2.1.1)) w8 from by
    obtain ⟨he, F8, D8, m8, s8, k8⟩ := HP.out
    have hw := HW7.out.trans ⟨s8, k8⟩
    rw [HS2.out]
    unfold bindR
    rw [if_neg r2]
    exact ⟨(endD_no r2 _).symm, F8, D8, m8, hw.1, hw.2⟩)
   clear hp r2 HP
   go_wp2_with fail
   exact ⟨rfl, HFIN.out⟩
  obtain ⟨he, F8, D8, m8, s8, k8⟩ := hp
  have hW8 := HW7.out.trans ⟨s8, k8⟩
  have HW8 := Hd hW8
  have HM8 := Hd m8
  have HS3 := Hd (show R = (if R2.1.2 = out then ((0, out), R2.2) else starLoop (64 - (I + 1)) R2.2 id a R2.1.2) from by
   rw [HS2.out]
   unfold bindR
   rw [if_pos r2])
  have HL8 := Hd (show id < R2.2.length ∧ a < R2.2.length ∧ R2.1.2 < R2.2.length from by
   have := HFN1.out.pre.length_le
   have := HFN2.out.pre.length_le
   have := HFN2.out.lt r2
   have := hl'.out
   omega)
  obtain ⟨nx, hnx⟩ : ∃ nx, nx = R2.1.2 := ⟨_, rfl⟩
  rw [← hnx] at HS3 HL8 ⊢
  clear he m8 s8 k8 hW8 HP r2 hnx HC1 HC2 HS2 HSE HE2
  by_cases q : nx = out
  ·have hq : ((nx : Int) == (out : Int)) = true := by rw [beq_iff_eq]; omega
   have HFIN := Hd (show MPost F w p m mt R (.returned (.int .i64 out)) w8 from by
    rw [HS3.out, if_pos q]
    exact ⟨(endD_ok _).symm, F8, D8, HM8.out, HW8.out.1, HW8.out.2⟩)
   clear q
   go_wp2_with fail
   go_ret
   exact HFIN.out
  ·have hq : ((nx : Int) == (out : Int)) = false := by rw [beq_eq_false_iff_ne]; omega
   have HR9 := Hd (HS3.out.trans (if_neg q))
   clear q
   go_wp2_with fail
   go_roundw
   case rel => exact ⟨I + 1, nx, F8, D8, R2.2, by omega, by go_num, rfl, HR9.out, HM8.out, HW8.out, HL8.out⟩
   case measure => simp [intOf]; omega

set_option maxRecDepth 100000 in
set_option maxHeartbeats 4000000 in
theorem dStar_any {F : Nat → Prop} (p : Nat) (L : List NdD) (a : Int) (w : World) (h : SD F w p L) (ha : -9223372036854775808 ≤ a ∧ a ≤ 9223372036854775807) :
  Calls Tryz.prog 48 #[.pointer (some ⟨p, 0, none⟩), .int .i64 a] w (DPost F w p (starT L a)) := by
 have hmf : ∀ (fn : Fn) (first cap : Array Value) (w : World), (Instr.makeFunc fn first cap).run Tryz.prog w = .ok (.func fn first cap) w := fun _ _ _ _ => rfl
 obtain ⟨w1, h1⟩ : ∃ W : World, w.alloc (.cells #[.pointer (some ⟨p, 0, none⟩)] 31) = W := ⟨_, rfl⟩
 obtain ⟨w2, h2⟩ : ∃ W : World, w1.alloc (.cells #[.int .i64 a] 3) = W := ⟨_, rfl⟩
 obtain ⟨w3, h3⟩ : ∃ W : World, w2.alloc (.cells #[.int .i64 a] 3) = W := ⟨_, rfl⟩
 have x1 : Ext w w1 := h1 ▸ Ext.alloc _ _
 have x2 : Ext w1 w2 := h2 ▸ Ext.alloc _ _
 have x3 : Ext w2 w3 := h3 ▸ Ext.alloc _ _
 have s1 : w1.heap.size = w.heap.size + 1 := by rw [← h1, World.size_alloc]
 have s2 : w2.heap.size = w.heap.size + 1 + 1 := by rw [← h2, World.size_alloc, s1]
 have c0 : w3.cell? ⟨w.heap.size, 0, none⟩ = some (.pointer (some ⟨p, 0, none⟩)) := (x2.trans x3).later _ _ (by rw [← h1]; simp [go_sem])
 have c1 : w3.cell? ⟨w.heap.size + 1, 0, none⟩ = some (.int .i64 a) := x3.later _ _ (by rw [← h2, ← s1]; simp [go_sem])
 have hr : w3.rangeAt (w.heap.size + 1 + 1) 0 ([a].map (.int .i64 ·)) := by
  rw [← h3, ← s2]
  exact rangeAt_new w2 #[.int .i64 a] 3
 have hs3 : w3.heap.size = w.heap.size + 1 + 1 + 1 := by rw [← h3, World.size_alloc, s2]
 have HRU := Hd (drun_any p L 78 #[.pointer (some ⟨w.heap.size, 0, none⟩), .pointer (some ⟨w.heap.size + 1, 0, none⟩)] (w.heap.size + 1 + 1) [a] w3 (h.ext (x1.trans (x2.trans x3))) (starP L a.toNat) (by simp) (fun x hx => by simp at hx; subst hx; exact ha) hr
  (enters_of Tryz.func78 (by kernel_rfl) rfl)
  (fun hok W m mt hW hmt0 hM => by
   obtain ⟨ea, la⟩ := okIds_one hok
   have d0 := hW.later _ _ c0
   have d1 := hW.later _ _ c1
   rw [ea] at d1
   have hlt := h.st.lt
   have hmt : w.heap.size + 1 < mt := by omega
   exact dstarC_any p m mt L [] a.toNat W la hM _ _ ⟨d0, fun e => by have := hlt _ e; omega, by omega⟩ ⟨d1, fun e => by have := hlt _ e; omega, by omega⟩))
 have HEQ := Hd (And.intro h1 (And.intro h2 h3))
 have HSZ := Hd (And.intro s1 s2)
 have HX := Hd (x1.trans (x2.trans x3))
 have HD := Hd (show w2.cell? ⟨w.heap.size, 0, none⟩ = some (.pointer (some ⟨p, 0, none⟩)) ∧ w2.cell? ⟨w.heap.size + 1, 0, none⟩ = some (.int .i64 a) from ⟨x2.later _ _ (by rw [← h1]; simp [go_sem]), by rw [← h2, ← s1]; simp [go_sem]⟩)
 clear x1 x2 x3 s1 s2 c0 c1 hr h1 h2 h3 hs3
 go_enter Tryz.func48, Tryz.ntmps48
 go_wp2_with fail
 try simp only [HEQ.out.1, HEQ.out.2.1, HEQ.out.2.2, HSZ.out.1, HSZ.out.2]
 refine HRU.out.mono ?_
 intro e w5 hp
 have HP := Hd (SD.back HX.out hp)
 have he := hp.1
 subst he
 have HFIN := Hd (show DPost F w p (starT L a) (.returned (.tuple #[.int .i64 (starT L a).1.1, .int .i64 (starT L a).1.2])) w5 from HP.out)
 clear hp HP
 change Hid (DPost F w p (starT L a) _ w5) at HFIN
 go_wp2_with fail
 go_ret2
 exact HFIN.out
end Go.Proofs.YtjjbdbklbghlhaaGreatDoor
/- Diagrams in plain words: every answer grows the store by leaves and tests; tests fit. -/
namespace Go.Proofs.YtjjbdbklbghlhaaGreatDoor
open Go.RowKit Go.Sort Go.Maps Go.Lib
set_option linter.unusedSimpArgs false

inductive Steps : List NdD → List NdD → Prop
 | refl (L : List NdD) : Steps L L
 | leaf {L M : List NdD} (r : List RowD) : Steps L M → Steps L (leafR M r).2
 | test {L M : List NdD} (p : Int × Int) (a b : Nat) : Steps L M → Steps L (testR M p a b).2
theorem Steps.trans {L M N : List NdD} (h : Steps L M) (k : Steps M N) : Steps L N := by
 induction k with
 | refl => exact h
 | leaf r _ ih => exact .leaf r ih
 | test p a b _ ih => exact .test p a b ih
theorem leafR_steps (L : List NdD) (r : List RowD) : Steps L (leafR L r).2 := .leaf r (.refl L)
theorem testR_steps (L : List NdD) (p : Int × Int) (a b : Nat) : Steps L (testR L p a b).2 := .test p a b (.refl L)
theorem bindR_steps {L : List NdD} {R : Out} {k : Nat → List NdD → Out} (h : Steps L R.2) (hk : Steps R.2 (k R.1.2 R.2).2) : Steps L (bindR R k).2 := by
 unfold bindR
 split
 ·exact h.trans hk
 ·exact h
theorem unionP_steps : ∀ (k : Nat) (L : List NdD) (a b : Nat), Steps L (unionP k L a b).2
 | 0, L, _, _ => .refl L
 | k + 1, L, a, b => by
  rw [unionP]
  split
  ·exact .refl L
  ·split
   ·exact leafR_steps _ _
   ·exact bindR_steps (unionP_steps k _ _ _) (bindR_steps (unionP_steps k _ _ _) (testR_steps _ _ _ _))
theorem pickP_steps : ∀ (k : Nat) (L : List NdD) (t : Int × Int) (a b : Nat), Steps L (pickP k L t a b).2
 | 0, L, _, _, _ => .refl L
 | k + 1, L, t, a, b => by
  rw [pickP]
  split
  ·exact .refl L
  ·dsimp only
   split
   ·exact testR_steps _ _ _ _
   ·split
    ·exact bindR_steps (pickP_steps k _ _ _ _) (testR_steps _ _ _ _)
    ·exact bindR_steps (pickP_steps k _ _ _ _) (bindR_steps (pickP_steps k _ _ _ _) (testR_steps _ _ _ _))
theorem behindP_steps : ∀ (k : Nat) (L : List NdD) (row : RowD) (b : Nat), Steps L (behindP k L row b).2
 | 0, L, _, _ => .refl L
 | k + 1, L, row, b => by
  rw [behindP]
  split
  ·exact leafR_steps _ _
  ·split
   ·split
    ·exact behindP_steps k _ _ _
    ·exact behindP_steps k _ _ _
   ·exact bindR_steps (behindP_steps k _ _ _) (bindR_steps (behindP_steps k _ _ _) (pickP_steps _ _ _ _ _))
theorem rowsThen_steps (b : Nat) (L : List NdD) : ∀ (rs : List RowD) (R : Out), Steps L R.2 → Steps L (rowsThen b rs R).2
 | [], _, h => h
 | r :: rs, R, h => by
  rw [rowsThen]
  exact rowsThen_steps b L rs _ (bindR_steps h (bindR_steps (behindP_steps _ _ _ _) (unionP_steps _ _ _ _)))
theorem thenP_steps : ∀ (k : Nat) (L : List NdD) (a b : Nat), Steps L (thenP k L a b).2
 | 0, L, _, _ => .refl L
 | k + 1, L, a, b => by
  rw [thenP]
  split
  ·exact rowsThen_steps b L _ _ (leafR_steps _ _)
  ·exact bindR_steps (thenP_steps k _ _ _) (bindR_steps (thenP_steps k _ _ _) (pickP_steps _ _ _ _ _))
theorem notP_steps : ∀ (k : Nat) (L : List NdD) (a : Nat), Steps L (notP k L a).2
 | 0, L, _ => .refl L
 | k + 1, L, a => by
  rw [notP]
  split
  ·split
   ·exact leafR_steps _ _
   ·exact leafR_steps _ _
   ·exact .refl L
  ·exact bindR_steps (notP_steps k _ _) (bindR_steps (notP_steps k _ _) (testR_steps _ _ _ _))
theorem starLoop_steps : ∀ (k : Nat) (L : List NdD) (id a out : Nat), Steps L (starLoop k L id a out).2
 | 0, L, _, _, _ => .refl L
 | k + 1, L, id, a, out => by
  rw [starLoop]
  refine bindR_steps (bindR_steps (thenP_steps _ _ _ _) (unionP_steps _ _ _ _)) ?_
  split
  ·exact .refl _
  ·exact starLoop_steps k _ _ _ _
theorem starP_steps (L : List NdD) (a : Nat) : Steps L (starP L a).2 := bindR_steps (leafR_steps _ _) (starLoop_steps _ _ _ _ _)
/-- tests fit -/
def InvF (L : List NdD) : Prop := ∀ x ∈ L, 0 ≤ x.f → fitsB x.f x.n = true
theorem InvF.nil : InvF [] := fun x h => by cases h
theorem testP_fits (L : List NdD) (f n hi lo : Int) : (testP L f n hi lo).2 = L ∨ ((testP L f n hi lo).2 = L ++ [⟨f, n, hi, lo, []⟩] ∧ fitsB f n = true) := by
 unfold testP
 split
 ·rename_i hf
  split
  ·split
   ·exact .inl rfl
   ·split
    ·exact .inl rfl
    ·unfold putN
     split
     ·exact .inl rfl
     ·unfold addN
      split
      ·exact .inl rfl
      ·exact .inr ⟨rfl, hf.1⟩
  ·exact .inl rfl
 ·exact .inl rfl
theorem Steps.fits {L M : List NdD} (hs : Steps L M) (h : InvF L) : InvF M := by
 induction hs with
 | refl => exact h
 | @leaf M r _ ih =>
  show InvF (leafP _ r).2
  rcases leafP_cases M r with e | ⟨s, e⟩
  ·rw [e]; exact ih
  ·rw [e]
   intro x hx hf
   rcases List.mem_append.1 hx with hx | hx
   ·exact ih x hx hf
   ·simp at hx; subst hx; simp at hf
 | @test M p a b _ ih =>
  show InvF (testP M p.1 p.2 a b).2
  rcases testP_fits M p.1 p.2 a b with e | ⟨e, hf⟩
  ·rw [e]; exact ih
  ·rw [e]
   intro x hx hf2
   rcases List.mem_append.1 hx with hx | hx
   ·exact ih x hx hf2
   ·simp at hx; subst hx; exact hf
/-- a test's field is a field -/
theorem fits_bd {f n : Int} (h : fitsB f n = true) : 0 ≤ f ∧ f ≤ 10 := by
 have := okA_bd (a := ⟨0, f, n⟩) (by unfold okA; simp [h])
 exact ⟨this.2.1, this.2.2.1⟩
end Go.Proofs.YtjjbdbklbghlhaaGreatDoor

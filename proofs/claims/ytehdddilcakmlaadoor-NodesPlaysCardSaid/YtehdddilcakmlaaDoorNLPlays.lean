/- NodesPlays walked. -/
import Derived.Test.YtehdddilcakmlaaDoorNRef6
import Derived.Test.YtehdddilcakmlaaDoorNAct
namespace Go.Proofs.YtehdddilcakmlaaDoor
open Go.RowKit Go.Sort Go.Maps Go.Lib
set_option linter.unusedSimpArgs false

structure PlS (w0 w : World) (p g : Nat) (L M : List NdD) : Prop where
  ex : Ext w0 w
  st : ∃ F B rv rvs, St F w p L ∧ (∀ b, F b → w0.heap.size ≤ b ∧ b ≠ g ∧ rv.ownBlock ≠ some b ∧ ¬ B b) ∧ RfS B w0.heap.size w g M rv rvs
theorem PlS.ext {w0 w w' : World} {p g : Nat} {L M : List NdD} (h : PlS w0 w p g L M) (hx : Ext w w') : PlS w0 w' p g L M := by
  obtain ⟨F, B, rv, rvs, h1, h2, h3⟩ := h.st
  exact ⟨h.ex.trans hx, F, B, rv, rvs, h1.ext hx, h2, h3.ext hx⟩
theorem PlS.new {w w1 w2 : World} {p : Nat} (h : Did w w1 p []) (hA : w1.alloc (.cells #[.slice none 0 0] 30) = w2) : PlS w w2 p w1.heap.size [] [] := by
  obtain ⟨⟨F, h1, h2⟩, h3⟩ := h
  have x2 : Ext w1 w2 := hA ▸ Ext.alloc _ _
  refine ⟨h3.trans x2, F, fun _ => False, .slice none 0 0, [], h1.ext x2, fun b hb => ⟨h2 b hb, ?_, by simp [Value.ownBlock], fun h => h⟩, ?_⟩
  · have := h1.lt b hb
    omega
  · refine ⟨by rw [← hA]; simp [go_sem], by rw [← hA]; simp [go_sem], h3.size, World.ownsRow_nil _ _ _ _, ⟨rfl, fun i h => by simp at h⟩, fun b hb => hb.elim, by simp [Value.ownBlock]⟩
/-- the program's store has gone on -/
theorem PlS.sOp {w0 w w' : World} {p g : Nat} {L' M : List NdD} {F F' B : Nat → Prop} {rv : Value} {rvs : List Value} (hx : Ext w0 w) (hF : ∀ b, F b → w0.heap.size ≤ b ∧ b ≠ g ∧ rv.ownBlock ≠ some b ∧ ¬ B b) (hr : RfS B w0.heap.size w g M rv rvs) (hto : StTo F w w' p L' F') : PlS w0 w' p g L' M := by
  have hk := hto.kp
  have hg : g < w.heap.size := World.block_lt_of_cell? w _ hr.c
  have hgF : ¬ F g := fun h => (hF g h).2.1 rfl
  refine ⟨hx.trans' ⟨hk.os, hk.tape, hk.output, hk.size, fun i hi => hk.block i (Nat.lt_of_lt_of_le hi hx.size) (fun hb => by have := (hF i hb).1; omega)⟩, F', fun b => B b ∧ b < w.heap.size, rv, rvs, hto.st, fun b hb => ?_, ?_⟩
  · rcases hto.sub b hb with h1 | h1
    · exact ⟨(hF b h1).1, (hF b h1).2.1, (hF b h1).2.2.1, fun h => (hF b h1).2.2.2 h.1⟩
    · exact ⟨Nat.le_trans hx.size h1, by omega, fun e => by have := (owns_lt hr.o b e).2; omega, fun h => by have := h.2; omega⟩
  · refine ⟨hk.cell hr.c hgF, by rw [World.frozen?_of_block (hk.block g hg hgF)]; exact hr.fz, hr.gb, owns_keep hr.o fun i hi => hk.block i (owns_lt hr.o i hi).2 fun hb => (hF i hb).2.2.1 hi, ?_, fun b hb => hr.nb b hb.1, hr.ne⟩
    exact (hr.v.mono (C := fun b => B b ∧ b < w.heap.size) (fun b hlt hb => ⟨hb, hlt⟩)).keep hk.size (fun b hb hlt => hk.block b hlt fun h => (hF b h).2.2.2 hb.1)
/-- the document's store has gone on -/
theorem PlS.rOp {w0 w w' : World} {p g : Nat} {L : List NdD} {F B : Nat → Prop} {rv : Value} {rvs : List Value} {M : List NdD} {R : (Int × Int) × List NdD} {e : Ending} (hx : Ext w0 w) (hs : St F w p L) (hF : ∀ b, F b → w0.heap.size ≤ b ∧ b ≠ g ∧ rv.ownBlock ≠ some b ∧ ¬ B b) (hr : RfS B w0.heap.size w g M rv rvs) (hp : PutR B (fun _ => False) w0.heap.size w g rv R e w') : PlS w0 w' p g L R.2 := by
  obtain ⟨-, B', rv', rvs', h1, hk, h3, h4⟩ := hp
  have hlt := hs.lt
  refine ⟨hx.trans' ⟨hk.os, hk.tape, hk.output, hk.size, fun i hi => hk.block i (Nat.lt_of_lt_of_le hi hx.size) (fun hb => by
    rcases hb with rfl | hb
    · have := hr.gb; omega
    · have := (owns_lt hr.o i hb).1; omega)⟩, F, B', rv', rvs', hs.keep hk.size (fun b hb => hk.block b (hlt b hb) fun h => h.elim (hF b hb).2.1 (hF b hb).2.2.1), fun b hb => ⟨(hF b hb).1, (hF b hb).2.1, fun e => ?_, fun e => ?_⟩, h1⟩
  · rcases h3 b e with h5 | h5
    · exact (hF b hb).2.2.1 h5
    · have := hlt b hb; omega
  · rcases h4 b e with h5 | h5 | h5
    · exact (hF b hb).2.2.2 h5
    · exact h5
    · have := hlt b hb; omega
/-- what of a store a look needs -/
theorem PlS.look {w0 w : World} {p g : Nat} {L M : List NdD} (h : PlS w0 w p g L M) : InvL L ∧ ∃ q c, (∀ W, Ext w W → W.cell? ⟨g, 0, none⟩ = some (.slice q M.length c)) ∧
    (∀ i (hi : i < M.length), ∃ gb q1 n1 k1, q = some ⟨gb, 0, none⟩ ∧ ∀ W, Ext w W → W.rangeAt gb (i * 5) ((M[i]).cs (.slice q1 n1 k1)) ∧ RowsOn AnyB W (M[i]).leaf (.slice q1 n1 k1)) ∧
    (∀ W, Ext w W → Calls Tryd.prog 18 #[.pointer (some ⟨p, 0, none⟩)] W fun e w' => e = .returned (.int .i64 L.length) ∧ W = w') ∧
    (∀ W, Ext w W → ∀ id : Int, -9223372036854775808 ≤ id ∧ id ≤ 9223372036854775807 → Calls Tryd.prog 15 #[.pointer (some ⟨p, 0, none⟩), .int .i64 id] W fun e w' => GetPost L id e w' ∧ Ext W w') ∧
    (InvL M → ∀ W, Ext w W → ∀ id : Int, -9223372036854775808 ≤ id ∧ id ≤ 9223372036854775807 → Calls Tryd.prog 16 #[.pointer (some ⟨g, 0, none⟩), .int .i64 id] W fun e w' => GetPost M id e w' ∧ Ext W w') := by
  obtain ⟨F, B, rv, rvs, h1, h2, h3⟩ := h.st
  obtain ⟨q, c, rfl, -⟩ := owns_form h3.o
  refine ⟨h1.inv, q, c, fun W hW => hW.later _ _ h3.c, fun i hi => ?_, fun W hW => lenS_any p L W (h1.ext hW), fun W hW id hid => getS_any p L id W (h1.ext hW) hid, fun hM W hW id hid => refGet_any g M _ rvs id W (h3.ext hW) hM hid⟩
  rcases owns_range h3.o with ⟨h0, -⟩ | ⟨gb, c', he, -, -, hr⟩
  · omega
  · cases he
    have hv := h3.v.2 i hi (by rw [h3.v.1]; exact hi)
    obtain ⟨q1, n1, k1, hq, -⟩ := id hv
    have hn := nodeCells h3.v.1 hr i hi
    rw [hq] at hv hn
    exact ⟨gb, q1, n1, k1, rfl, fun W hW => ⟨World.rangeAt.later hW.later hn, (hv.ext hW).mono fun _ _ _ => trivial⟩⟩
theorem node_form {B : Nat → Prop} {w : World} {x : NdD} {v : Value} (h : NodeVal B w x v) : ∃ q n c, v = .agg #[.int .i8 x.f, .int .u64 x.n, .int .i64 x.hi, .int .i64 x.lo, .slice q n c] ∧ RowsOn B w x.leaf (.slice q n c) := by
  obtain ⟨lv, rfl, h⟩ := h
  obtain ⟨q, n, c, rfl, -⟩ := id h
  exact ⟨q, n, c, rfl, h⟩
theorem pl_cell5 {w : World} (a b c d e : Value) (t : TypeId) : (w.alloc (.cells #[a, b, c, d, e] t)).cell? ⟨w.heap.size, 0, none⟩ = some a ∧ (w.alloc (.cells #[a, b, c, d, e] t)).cell? ⟨w.heap.size, 1, none⟩ = some b ∧ (w.alloc (.cells #[a, b, c, d, e] t)).cell? ⟨w.heap.size, 2, none⟩ = some c ∧ (w.alloc (.cells #[a, b, c, d, e] t)).cell? ⟨w.heap.size, 3, none⟩ = some d ∧ (w.alloc (.cells #[a, b, c, d, e] t)).cell? ⟨w.heap.size, 4, none⟩ = some e := by
  refine ⟨?_, ?_, ?_, ?_, ?_⟩ <;> simp [go_sem]

set_option maxHeartbeats 16000000 in
set_option maxRecDepth 100000 in
theorem lawPlays_any (l : List ActD) (v : Value) (w : World) (h : ActsOn w l v) (ht : Tb w) :
    Calls Tryd.prog 3 #[v] w fun e w' => e = .returned (.bool true) ∧ Ext w w' := by
  have HTB := Lib.hid ht
  have HAC := Lib.hid h
  obtain ⟨pa, la, ca, rfl, hla, hlc, hcm, hlm, -⟩ := h
  have HLA := Lib.hid hla
  have HAT := Lib.hid (actsAt HAC.out)
  clear hla ht
  go_enter Tryd.func3, Tryd.ntmps3
  go_wp2_with fail
  refine (great_any l _ w HAC.out).mono ?_
  rintro e w1 ⟨gr, rfl, rfl, hg⟩
  cases gr with
  | true =>
    clear hg
    go_wp2_with fail
    refine (wakes20_any w HTB.out).mono ?_
    rintro e w6 ⟨rfl, hx6⟩
    go_wp2_with fail
    go_ret
    exact ⟨rfl, hx6⟩
  | false =>
    have HG := Lib.hid (hg rfl)
    clear hg
    go_wp2_with fail
    refine (newO w).mono ?_
    rintro e w1 ⟨p, rfl, hd⟩
    obtain ⟨wR, hwR⟩ : ∃ W : World, w1.alloc (.cells #[.slice none 0 0] 30) = W := ⟨_, rfl⟩
    obtain ⟨g, hgg⟩ : ∃ g, g = w1.heap.size := ⟨_, rfl⟩
    have HNEW := Lib.hid (show PlS w wR p g [] [] from by rw [hgg]; exact PlS.new hd hwR)
    have HER := Lib.hid hwR
    have HGG := Lib.hid hgg
    clear hd hwR hgg
    go_upto_region 5 with fail
    rw [HER.out, ← HGG.out]
    clear HER HGG
    go_wp2_with fail
    go_loopw [5] (fun i wr => ∃ I : Nat, I ≤ la ∧ i = .int .i64 I ∧ Hid (PlS w wr p g ((l.take I).foldl stepA []) ((l.take I).foldl stepA []))) (fun i _ => la - (intOf i).toNat)
    case atStart => exact ⟨0, Nat.zero_le _, rfl, HNEW.out⟩
    case round =>
      obtain ⟨wo, rfl⟩ : ∃ wo : World, wo = wr := ⟨_, rfl⟩
      obtain ⟨I, hI, rfl, hd⟩ := hrel
      by_cases h2 : I < la
      case neg =>
        have HEX := Lib.hid hd.out.ex
        generalize (l.take I).foldl stepA [] = L at *
        obtain ⟨hIL, q, c, hcg, hnc, hlen, hget, hrget⟩ := hd.out.look
        obtain ⟨m, hm⟩ : ∃ m, m = L.length := ⟨_, rfl⟩
        rw [← hm] at hcg
        have HM := Lib.hid hm
        have HCG := Lib.hid hcg
        have HNC := Lib.hid hnc
        have HGT := Lib.hid hget
        have hmb : m ≤ 65536 := by rw [hm]; exact hIL.2.1
        clear hIL hcg hnc hlen hget hrget hd hm
        go_wp2_with fail
        go_loopw [15] (fun i wr => ∃ J : Nat, J ≤ m ∧ i = .int .i64 J ∧ Hid (Ext wo wr)) (fun i _ => m - (intOf i).toNat)
        case atStart => exact ⟨0, Nat.zero_le _, rfl, Ext.refl _⟩
        case round =>
          obtain ⟨wn, rfl⟩ : ∃ wn : World, wn = wr := ⟨_, rfl⟩
          obtain ⟨J, hJ, rfl, hx⟩ := hrel
          have cg := HCG.out wn hx.out
          by_cases h3 : J < m
          case neg =>
            go_wp2_with fail
            refine (wakes20_any wn (HTB.out.ext (HEX.out.trans hx.out))).mono ?_
            rintro e w6 ⟨rfl, hx6⟩
            go_wp2_with fail
            go_ret
            exact ⟨rfl, HEX.out.trans (hx.out.trans hx6)⟩
          have hJl : J < L.length := by rw [← HM.out]; exact h3
          obtain ⟨gb, q1, n1, k1, rfl, hcr⟩ := HNC.out J hJl
          obtain ⟨x, hxL⟩ : ∃ x, x = L[J] := ⟨_, rfl⟩
          have HGP := Lib.hid (show getP L (J : Int) = some x from by
            unfold getP
            rw [if_pos ⟨by omega, by omega⟩, hxL]
            simp [hJl])
          rw [← hxL] at hcr
          have HCR := Lib.hid hcr
          clear hxL hcr
          go_wp2_with fail
          refine (HGT.out wn hx.out J (by omega)).mono ?_
          rintro e w3 ⟨⟨v3, rfl, hv3⟩, hx3⟩
          rw [HGP.out] at hv3 ⊢
          obtain ⟨q3, n3, c3, rfl, hr3⟩ := node_form hv3
          obtain ⟨w4, h4⟩ : ∃ W : World, w3.alloc (.cells #[.int .i8 x.f, .int .u64 x.n, .int .i64 x.hi, .int .i64 x.lo, .slice q3 n3 c3] 41) = W := ⟨_, rfl⟩
          have x4 : Ext w3 w4 := h4 ▸ Ext.alloc _ _
          have HC4 := Lib.hid (show w4.cell? ⟨w3.heap.size, 0, none⟩ = some (.int .i8 x.f) ∧ w4.cell? ⟨w3.heap.size, 1, none⟩ = some (.int .u64 x.n) ∧ w4.cell? ⟨w3.heap.size, 2, none⟩ = some (.int .i64 x.hi) ∧ w4.cell? ⟨w3.heap.size, 3, none⟩ = some (.int .i64 x.lo) ∧ w4.cell? ⟨w3.heap.size, 4, none⟩ = some (.slice q3 n3 c3) from by rw [← h4]; exact pl_cell5 _ _ _ _ _ _)
          have HX4 := Lib.hid (hx.out.trans (hx3.trans x4))
          have HR4 := Lib.hid (show RowsOn AnyB w4 x.leaf (.slice q3 n3 c3) from hr3.ext x4)
          have HE4 := Lib.hid h4
          have hz : Ext w4 w4.drew := Ext.drew _
          have HSX := Lib.hid (show ∀ W : World, Ext w4 W → (fun W : World => W.cell? ⟨w3.heap.size, 0, none⟩ = some (.int .i8 x.f) ∧ W.cell? ⟨w3.heap.size, 1, none⟩ = some (.int .u64 x.n) ∧ W.cell? ⟨w3.heap.size, 2, none⟩ = some (.int .i64 x.hi) ∧ W.cell? ⟨w3.heap.size, 3, none⟩ = some (.int .i64 x.lo) ∧ W.cell? ⟨w3.heap.size, 4, none⟩ = some (.slice q3 n3 c3) ∧ W.cell? ⟨g, 0, none⟩ = some (.slice (some ⟨gb, 0, none⟩) m c) ∧ W.cell? ⟨gb, J * 5, none⟩ = some (.int .i8 x.f) ∧ W.cell? ⟨gb, J * 5 + 1, none⟩ = some (.int .u64 x.n) ∧ W.cell? ⟨gb, J * 5 + 2, none⟩ = some (.int .i64 x.hi) ∧ W.cell? ⟨gb, J * 5 + 3, none⟩ = some (.int .i64 x.lo) ∧ W.cell? ⟨gb, J * 5 + 4, none⟩ = some (.slice q1 n1 k1)) W from fun W hW => by
            have h5 := (HCR.out W (HX4.out.trans hW)).1
            exact ⟨hW.later _ _ HC4.out.1, hW.later _ _ HC4.out.2.1, hW.later _ _ HC4.out.2.2.1, hW.later _ _ HC4.out.2.2.2.1, hW.later _ _ HC4.out.2.2.2.2, HCG.out W (HX4.out.trans hW), by simpa using h5 0 _ rfl, h5 1 _ rfl, h5 2 _ rfl, h5 3 _ rfl, h5 4 _ rfl⟩)
          have HAL := Lib.hid (alike_any (B := AnyB) (C := AnyB) x x _ _ w4.drew ⟨_, rfl, HR4.out.ext hz⟩ ⟨_, rfl, (HCR.out _ (HX4.out.trans hz)).2⟩)
          rw [decide_eq_true rfl] at HAL
          have HR4 := HR4
          clear h4 hx3 x4 hv3 hr3 cg
          go_upto_region 28 with fail
          try simp only [Option.isSome_some, Option.getD_some]
          rw [HE4.out]
          clear HE4
          refine wp_region_noPanic ?_
          refine wp_region_held_drew (S := (fun W : World => W.cell? ⟨w3.heap.size, 0, none⟩ = some (.int .i8 x.f) ∧ W.cell? ⟨w3.heap.size, 1, none⟩ = some (.int .u64 x.n) ∧ W.cell? ⟨w3.heap.size, 2, none⟩ = some (.int .i64 x.hi) ∧ W.cell? ⟨w3.heap.size, 3, none⟩ = some (.int .i64 x.lo) ∧ W.cell? ⟨w3.heap.size, 4, none⟩ = some (.slice q3 n3 c3) ∧ W.cell? ⟨g, 0, none⟩ = some (.slice (some ⟨gb, 0, none⟩) m c) ∧ W.cell? ⟨gb, J * 5, none⟩ = some (.int .i8 x.f) ∧ W.cell? ⟨gb, J * 5 + 1, none⟩ = some (.int .u64 x.n) ∧ W.cell? ⟨gb, J * 5 + 2, none⟩ = some (.int .i64 x.hi) ∧ W.cell? ⟨gb, J * 5 + 3, none⟩ = some (.int .i64 x.lo) ∧ W.cell? ⟨gb, J * 5 + 4, none⟩ = some (.slice q1 n1 k1))) (by kernel_rfl) (HSX.out _ hz) (fun hHeld => ?_)
          refine wpAnyH_take (i := 0) (v := .bool true) rfl (by kernel_rfl) (by kernel_rfl) (by kernel_rfl) (fun _ _ _ h => h) (Or.inl ⟨by rfl, by (intro w hSw; (try dsimp only at hSw); go_simp; try (first | omega | (rw [IntKind.wrap_i64]; omega)))⟩) (by assumption) ?_
          try simp only [List.getElem_toArray, List.getElem_cons_zero, List.getElem_cons_succ, Act.put, List.setIfInBounds_toArray, List.set_cons_zero, List.set_cons_succ, Array.toArray_toList]
          refine wpAnyH_take (i := 1) (v := .bool false) rfl (by kernel_rfl) (by kernel_rfl) (by kernel_rfl) (fun _ _ _ h => h) (Or.inl ⟨by rfl, by (intro w hSw; (try dsimp only at hSw); go_simp; try (first | omega | (rw [IntKind.wrap_i64]; omega)))⟩) (by assumption) ?_
          try simp only [List.getElem_toArray, List.getElem_cons_zero, List.getElem_cons_succ, Act.put, List.setIfInBounds_toArray, List.set_cons_zero, List.set_cons_succ, Array.toArray_toList]
          refine wpAnyH_take (i := 2) (v := .bool false) rfl (by kernel_rfl) (by kernel_rfl) (by kernel_rfl) (fun _ _ _ h => h) (Or.inl ⟨by rfl, by (intro w hSw; (try dsimp only at hSw); go_simp; try (first | omega | (rw [IntKind.wrap_i64]; omega)))⟩) (by assumption) ?_
          try simp only [List.getElem_toArray, List.getElem_cons_zero, List.getElem_cons_succ, Act.put, List.setIfInBounds_toArray, List.set_cons_zero, List.set_cons_succ, Array.toArray_toList]
          refine wpAnyH_take (i := 3) (v := .agg #[.int .i8 x.f, .int .u64 x.n, .int .i64 x.hi, .int .i64 x.lo, .slice q3 n3 c3]) rfl (by kernel_rfl) (by kernel_rfl) (by kernel_rfl) (fun _ _ _ h => h) (Or.inl ⟨by rfl, by (intro w hSw; (try dsimp only at hSw); go_simp; try (first | omega | (rw [IntKind.wrap_i64]; omega)))⟩) (by assumption) ?_
          try simp only [List.getElem_toArray, List.getElem_cons_zero, List.getElem_cons_succ, Act.put, List.setIfInBounds_toArray, List.set_cons_zero, List.set_cons_succ, Array.toArray_toList]
          refine wpAnyH_take (i := 4) (v := .pointer (some ⟨g, 0, none⟩)) rfl (by kernel_rfl) (by kernel_rfl) (by kernel_rfl) (fun _ _ _ h => h) (Or.inl ⟨by rfl, by (intro w hSw; (try dsimp only at hSw); go_simp; try (first | omega | (rw [IntKind.wrap_i64]; omega)))⟩) (by assumption) ?_
          try simp only [List.getElem_toArray, List.getElem_cons_zero, List.getElem_cons_succ, Act.put, List.setIfInBounds_toArray, List.set_cons_zero, List.set_cons_succ, Array.toArray_toList]
          refine wpAnyH_take (i := 5) (v := .pointer (some ⟨g, 0, none⟩)) rfl (by kernel_rfl) (by kernel_rfl) (by kernel_rfl) (fun _ _ _ h => h) (Or.inl ⟨by rfl, by (intro w hSw; (try dsimp only at hSw); go_simp; try (first | omega | (rw [IntKind.wrap_i64]; omega)))⟩) (by assumption) ?_
          try simp only [List.getElem_toArray, List.getElem_cons_zero, List.getElem_cons_succ, Act.put, List.setIfInBounds_toArray, List.set_cons_zero, List.set_cons_succ, Array.toArray_toList]
          refine wpAnyH_take (i := 6) (v := .pointer (some ⟨g, 0, none⟩)) rfl (by kernel_rfl) (by kernel_rfl) (by kernel_rfl) (fun _ _ _ h => h) (Or.inl ⟨by rfl, by (intro w hSw; (try dsimp only at hSw); go_simp; try (first | omega | (rw [IntKind.wrap_i64]; omega)))⟩) (by assumption) ?_
          try simp only [List.getElem_toArray, List.getElem_cons_zero, List.getElem_cons_succ, Act.put, List.setIfInBounds_toArray, List.set_cons_zero, List.set_cons_succ, Array.toArray_toList]
          refine wpAnyH_take (i := 7) (v := .slice (some ⟨gb, 0, none⟩) m c) rfl (by kernel_rfl) (by kernel_rfl) (by kernel_rfl) (fun _ _ _ h => h) (Or.inl ⟨by rfl, by (intro w hSw; (try dsimp only at hSw); go_simp; try (first | omega | (rw [IntKind.wrap_i64]; omega)))⟩) (by assumption) ?_
          try simp only [List.getElem_toArray, List.getElem_cons_zero, List.getElem_cons_succ, Act.put, List.setIfInBounds_toArray, List.set_cons_zero, List.set_cons_succ, Array.toArray_toList]
          refine wpAnyH_take (i := 8) (v := .int .i64 J) rfl (by kernel_rfl) (by kernel_rfl) (by kernel_rfl) (fun _ _ _ h => h) (Or.inl ⟨by rfl, by (intro w hSw; (try dsimp only at hSw); go_simp; try (first | omega | (rw [IntKind.wrap_i64]; omega)))⟩) (by assumption) ?_
          try simp only [List.getElem_toArray, List.getElem_cons_zero, List.getElem_cons_succ, Act.put, List.setIfInBounds_toArray, List.set_cons_zero, List.set_cons_succ, Array.toArray_toList]
          refine wpAnyH_take (i := 9) (v := .pointer (some ⟨gb, J * 5, none⟩)) rfl (by kernel_rfl) (by kernel_rfl) (by kernel_rfl) (fun _ _ _ h => h) (Or.inl ⟨by rfl, by (intro w hSw; (try dsimp only at hSw); go_simp; try (first | omega | (rw [IntKind.wrap_i64]; omega)))⟩) (by assumption) ?_
          try simp only [List.getElem_toArray, List.getElem_cons_zero, List.getElem_cons_succ, Act.put, List.setIfInBounds_toArray, List.set_cons_zero, List.set_cons_succ, Array.toArray_toList]
          refine wpAnyH_take (i := 10) (v := .agg #[.int .i8 x.f, .int .u64 x.n, .int .i64 x.hi, .int .i64 x.lo, .slice q1 n1 k1]) rfl (by kernel_rfl) (by kernel_rfl) (by kernel_rfl) (fun _ _ _ h => h) (Or.inl ⟨by rfl, by (intro w hSw; (try dsimp only at hSw); go_simp; try (first | omega | (rw [IntKind.wrap_i64]; omega)))⟩) (by assumption) ?_
          try simp only [List.getElem_toArray, List.getElem_cons_zero, List.getElem_cons_succ, Act.put, List.setIfInBounds_toArray, List.set_cons_zero, List.set_cons_succ, Array.toArray_toList]
          refine wpAnyH_ready (rs := [11]) (by kernel_rfl) (by simp) ?_
          refine AllReadyH.cons (i := 11) rfl (fun K hK => ?_) AllReadyH.nil
          go_simp
          go_at_call 17
          refine (HAL.out).mono ?_
          rintro e w5 ⟨rfl, hx5⟩
          refine hK.out _ _ (HSX.out _ (hz.trans hx5)) (fun hHeld1 => ?_)
          clear hK K
          try simp only [List.getElem_toArray, List.getElem_cons_zero, List.getElem_cons_succ, Act.put, List.setIfInBounds_toArray, List.set_cons_zero, List.set_cons_succ, Array.toArray_toList]
          refine wpAnyH_take (i := 12) (v := .bool false) rfl (by kernel_rfl) (by kernel_rfl) (by kernel_rfl) (fun _ _ _ h => h) (Or.inl ⟨by rfl, by (intro w hSw; (try dsimp only at hSw); go_simp; try (first | omega | (rw [IntKind.wrap_i64]; omega)))⟩) (by assumption) ?_
          try simp only [List.getElem_toArray, List.getElem_cons_zero, List.getElem_cons_succ, Act.put, List.setIfInBounds_toArray, List.set_cons_zero, List.set_cons_succ, Array.toArray_toList]
          refine wpAnyH_take (i := 13) (v := .bool false) rfl (by kernel_rfl) (by kernel_rfl) (by kernel_rfl) (fun _ _ _ h => h) (Or.inl ⟨by rfl, by (intro w hSw; (try dsimp only at hSw); go_simp; try (first | omega | (rw [IntKind.wrap_i64]; omega)))⟩) (by assumption) ?_
          try simp only [List.getElem_toArray, List.getElem_cons_zero, List.getElem_cons_succ, Act.put, List.setIfInBounds_toArray, List.set_cons_zero, List.set_cons_succ, Array.toArray_toList]
          refine wpAnyH_done (by kernel_rfl) ?_ _
          refine NoPanic.normal ?_
          clear hHeld hHeld1
          go_wp2_with fail
          go_roundw
          case rel => exact ⟨J + 1, by omega, by go_num, HX4.out.trans (hz.trans hx5)⟩
          case measure => simp [intOf]; omega
      have hIl : I < l.length := by rw [← HLA.out]; exact h2
      obtain ⟨b, o, q, m, c, rfl, hcsw, hroww, -, hok⟩ := HAT.out w (Ext.refl _) I hIl
      have hcs := World.rangeAt.later hd.out.ex.later hcsw
      have hrow := hroww.ext hd.out.ex
      obtain ⟨x, hx⟩ : ∃ x, x = l[I] := ⟨_, rfl⟩
      obtain ⟨L, hL⟩ : ∃ L, L = (l.take I).foldl stepA [] := ⟨_, rfl⟩
      have HST := Lib.hid (show (l.take (I + 1)).foldl stepA [] = stepA L x from by rw [take_step _ _ _ _ hIl, hL, hx])
      have HSMX := Lib.hid (show Sm x from by rw [hx]; exact HG.out.2 _ (List.getElem_mem _))
      rw [← hx] at hcs hrow hok hroww
      have HRW := Lib.hid (fun W (hW : Ext w W) => hroww.ext hW)
      clear hcsw hroww
      rw [← hL] at hd
      clear hx hL
      have d0 : wo.cell? ⟨b, o + I * 6, none⟩ = some (.int .i64 x.d) := by simpa using hcs 0 _ rfl
      have d1 : wo.cell? ⟨b, o + I * 6 + 1, none⟩ = some (.slice q m c) := hcs 1 _ rfl
      have d2 : wo.cell? ⟨b, o + I * 6 + 2, none⟩ = some (.int .i8 x.f) := hcs 2 _ rfl
      have d3 : wo.cell? ⟨b, o + I * 6 + 3, none⟩ = some (.int .u64 x.n) := hcs 3 _ rfl
      have d4 : wo.cell? ⟨b, o + I * 6 + 4, none⟩ = some (.int .i64 x.hi) := hcs 4 _ rfl
      have d5 : wo.cell? ⟨b, o + I * 6 + 5, none⟩ = some (.int .i64 x.lo) := hcs 5 _ rfl
      obtain ⟨wA, hA⟩ : ∃ W : World, wo.alloc (.cells #[.int .i64 x.d, .slice q m c, .int .i8 x.f, .int .u64 x.n, .int .i64 x.hi, .int .i64 x.lo] 35) = W := ⟨_, rfl⟩
      have xA : Ext wo wA := hA ▸ Ext.alloc _ _
      have HZA := Lib.hid (fun (W : World) (hW : ∀ k, W.cell? ⟨wo.heap.size, k, none⟩ = wA.cell? ⟨wo.heap.size, k, none⟩) => show W.cell? ⟨wo.heap.size, 0, none⟩ = some (.int .i64 x.d) ∧ W.cell? ⟨wo.heap.size, 1, none⟩ = some (.slice q m c) ∧ W.cell? ⟨wo.heap.size, 2, none⟩ = some (.int .i8 x.f) ∧ W.cell? ⟨wo.heap.size, 3, none⟩ = some (.int .u64 x.n) ∧ W.cell? ⟨wo.heap.size, 4, none⟩ = some (.int .i64 x.hi) ∧ W.cell? ⟨wo.heap.size, 5, none⟩ = some (.int .i64 x.lo) from by
        rw [hW, hW, hW, hW, hW, hW, ← hA]
        exact ⟨by simp [go_sem], by simp [go_sem], by simp [go_sem], by simp [go_sem], by simp [go_sem], by simp [go_sem]⟩)
      have hzA : wo.heap.size < wA.heap.size := by rw [← hA, World.size_alloc]; omega
      have HZB := Lib.hid (show ∀ F : Nat → Prop, (∀ b, F b → b < wo.heap.size) → ∀ W, Keep F wA W → ∀ k, W.cell? ⟨wo.heap.size, k, none⟩ = wA.cell? ⟨wo.heap.size, k, none⟩ from fun F hF W hk k => World.cell?_of_block (a := ⟨wo.heap.size, k, none⟩) (hk.block wo.heap.size hzA fun h => by have := hF _ h; omega))
      have HD := Lib.hid (hd.out.ext xA)
      have HWO := Lib.hid (show ∀ F : Nat → Prop, St F wo p L → ∀ b, F b → b < wo.heap.size from fun F hF => hF.lt)
      have HPS := Lib.hid (show ∃ F B rv rvs, St F wA p L ∧ (∀ b, F b → b < wo.heap.size) ∧ (∀ b, F b → w.heap.size ≤ b ∧ b ≠ g ∧ rv.ownBlock ≠ some b ∧ ¬ B b) ∧ RfS B w.heap.size wA g L rv rvs from by
        obtain ⟨F, B, rv, rvs, h1, h2, h3⟩ := hd.out.st
        exact ⟨F, B, rv, rvs, h1.ext xA, h1.lt, h2, h3.ext xA⟩)
      have HRO := Lib.hid (hrow.ext xA)
      have HOK := Lib.hid hok
      have HTA := Lib.hid (HTB.out.ext (hd.out.ex.trans xA))
      have HEA := Lib.hid hA
      clear hcs hrow hok hA xA hzA HWO hd
      obtain ⟨z0, z1, z2, z3, z4, z5⟩ := HZA.out wA fun _ => rfl
      go_upto_region 9 with fail
      rw [HEA.out]
      clear HEA d0 d1 d2 d3 d4 d5
      by_cases h0 : x.d = 0
      case pos =>
        rw [h0] at z0
        obtain ⟨F, B, rv, rvs, hs1, hlt, hF, hrf⟩ := HPS.out
        have HSV := Lib.hid (leafS_any p L x.rows (.slice q m c) wA hs1 HRO.out (by have := HSMX.out.1; omega) (fun r hr => by have := HSMX.out.2 r hr; omega) HTA.out)
        have HF := Lib.hid hF
        have HLT := Lib.hid hlt
        have HRF := Lib.hid hrf
        have HIL := Lib.hid hs1.inv
        have HSP := Lib.hid (show stepA L x = (leafP L x.rows).2 from by unfold stepA; rw [if_pos h0])
        clear hs1 hlt hF hrf HPS
        skip
        go_wp2_with fail
        refine HSV.out.mono ?_
        obtain ⟨R, hR⟩ : ∃ R, R = leafP L x.rows := ⟨_, rfl⟩
        rw [← hR] at HSP ⊢
        rintro e w3 ⟨rfl, F', hto⟩
        have hp3 := PlS.sOp HD.out.ex HF.out HRF.out hto
        have HZ3 := Lib.hid (HZA.out w3 (HZB.out F HLT.out w3 hto.kp))
        have HZK := Lib.hid (show Ext w wA from HD.out.ex)
        obtain ⟨F3, B3, rv3, rvs3, hs3, hF3, hr3⟩ := hp3.st
        have HRV := Lib.hid (refLeaf_any g L rv3 rvs3 x.rows (.slice q m c) w3 hr3 hp3.ex.size HIL.out (HRW.out w3 hp3.ex) (by have := HSMX.out.1; omega) (fun r hr => by have := HSMX.out.2 r hr; omega))
        have HX3 := Lib.hid hp3.ex
        have HS3 := Lib.hid hs3
        have HF3 := Lib.hid hF3
        have HR3 := Lib.hid hr3
        rw [← hR] at HRV
        obtain ⟨ar, har⟩ : ∃ ar, ar = R.1.1 := ⟨_, rfl⟩
        obtain ⟨er, her⟩ : ∃ er, er = R.1.2 := ⟨_, rfl⟩
        have HAR := Lib.hid har
        have HER := Lib.hid her
        rw [← har, ← her]
        clear hto hp3 hs3 hF3 hr3 hR har her HSV z0 z1 z2 z3 z4 z5
        obtain ⟨z0, z1, z2, z3, z4, z5⟩ := HZ3.out
        rw [h0] at z0
        go_wp2_with fail
        refine HRV.out.mono ?_
        intro e w4 hp
        have HPE := Lib.hid (PlS.rOp HX3.out HS3.out HF3.out HR3.out hp)
        obtain ⟨rfl, -⟩ := hp
        rw [← HAR.out, ← HER.out]
        clear HRV
        obtain ⟨L2, hL2⟩ : ∃ L2, L2 = R.2 := ⟨_, rfl⟩
        rw [← hL2] at HPE HSP
        clear hL2
        obtain ⟨-, qz, cz, hcg, -, hlen, -, -⟩ := HPE.out.look
        obtain ⟨mz, hmz⟩ : ∃ mz, mz = L2.length := ⟨_, rfl⟩
        rw [← hmz] at hcg
        have HLZ := Lib.hid (fun W hW => hlen W hW)
        rw [← hmz] at HLZ
        have HCZ := Lib.hid hcg
        have hzz : Ext w4 w4.drew := Ext.drew _
        clear hcg hlen hmz z0 z1 z2 z3 z4 z5
        go_upto_region 22 with fail
        refine wp_region_noPanic ?_
        refine wp_region_held_drew (S := (fun W : World => W.cell? ⟨g, 0, none⟩ = some (.slice qz mz cz))) (by kernel_rfl) (HCZ.out _ hzz) (fun hHeld => ?_)
        refine wpAnyH_take (i := 0) (v := .int .i64 ar) rfl (by kernel_rfl) (by kernel_rfl) (by kernel_rfl) (fun _ _ _ h => h) (Or.inl ⟨by rfl, by (intro w hSw; (try dsimp only at hSw); go_simp; try (first | omega | (rw [IntKind.wrap_i64]; omega)))⟩) (by assumption) ?_
        try simp only [List.getElem_toArray, List.getElem_cons_zero, List.getElem_cons_succ, Act.put, List.setIfInBounds_toArray, List.set_cons_zero, List.set_cons_succ, Array.toArray_toList]
        refine wpAnyH_take (i := 1) (v := .int .i64 ar) rfl (by kernel_rfl) (by kernel_rfl) (by kernel_rfl) (fun _ _ _ h => h) (Or.inl ⟨by rfl, by (intro w hSw; (try dsimp only at hSw); go_simp; try (first | omega | (rw [IntKind.wrap_i64]; omega)))⟩) (by assumption) ?_
        try simp only [List.getElem_toArray, List.getElem_cons_zero, List.getElem_cons_succ, Act.put, List.setIfInBounds_toArray, List.set_cons_zero, List.set_cons_succ, Array.toArray_toList]
        refine wpAnyH_take (i := 2) (v := .bool false) rfl (by kernel_rfl) (by kernel_rfl) (by kernel_rfl) (fun _ _ _ h => h) (Or.inl ⟨by rfl, by (intro w hSw; (try dsimp only at hSw); go_simp; try (first | omega | (rw [IntKind.wrap_i64]; omega)))⟩) (by assumption) ?_
        try simp only [List.getElem_toArray, List.getElem_cons_zero, List.getElem_cons_succ, Act.put, List.setIfInBounds_toArray, List.set_cons_zero, List.set_cons_succ, Array.toArray_toList]
        refine wpAnyH_take (i := 3) (v := .bool false) rfl (by kernel_rfl) (by kernel_rfl) (by kernel_rfl) (fun _ _ _ h => h) (Or.inl ⟨by rfl, by (intro w hSw; (try dsimp only at hSw); go_simp; try (first | omega | (rw [IntKind.wrap_i64]; omega)))⟩) (by assumption) ?_
        try simp only [List.getElem_toArray, List.getElem_cons_zero, List.getElem_cons_succ, Act.put, List.setIfInBounds_toArray, List.set_cons_zero, List.set_cons_succ, Array.toArray_toList]
        refine wpAnyH_take (i := 4) (v := .int .i64 er) rfl (by kernel_rfl) (by kernel_rfl) (by kernel_rfl) (fun _ _ _ h => h) (Or.inl ⟨by rfl, by (intro w hSw; (try dsimp only at hSw); go_simp; try (first | omega | (rw [IntKind.wrap_i64]; omega)))⟩) (by assumption) ?_
        try simp only [List.getElem_toArray, List.getElem_cons_zero, List.getElem_cons_succ, Act.put, List.setIfInBounds_toArray, List.set_cons_zero, List.set_cons_succ, Array.toArray_toList]
        refine wpAnyH_take (i := 5) (v := .int .i64 er) rfl (by kernel_rfl) (by kernel_rfl) (by kernel_rfl) (fun _ _ _ h => h) (Or.inl ⟨by rfl, by (intro w hSw; (try dsimp only at hSw); go_simp; try (first | omega | (rw [IntKind.wrap_i64]; omega)))⟩) (by assumption) ?_
        try simp only [List.getElem_toArray, List.getElem_cons_zero, List.getElem_cons_succ, Act.put, List.setIfInBounds_toArray, List.set_cons_zero, List.set_cons_succ, Array.toArray_toList]
        refine wpAnyH_take (i := 6) (v := .bool false) rfl (by kernel_rfl) (by kernel_rfl) (by kernel_rfl) (fun _ _ _ h => h) (Or.inl ⟨by rfl, by (intro w hSw; (try dsimp only at hSw); go_simp; try (first | omega | (rw [IntKind.wrap_i64]; omega)))⟩) (by assumption) ?_
        try simp only [List.getElem_toArray, List.getElem_cons_zero, List.getElem_cons_succ, Act.put, List.setIfInBounds_toArray, List.set_cons_zero, List.set_cons_succ, Array.toArray_toList]
        refine wpAnyH_take (i := 7) (v := .bool false) rfl (by kernel_rfl) (by kernel_rfl) (by kernel_rfl) (fun _ _ _ h => h) (Or.inl ⟨by rfl, by (intro w hSw; (try dsimp only at hSw); go_simp; try (first | omega | (rw [IntKind.wrap_i64]; omega)))⟩) (by assumption) ?_
        try simp only [List.getElem_toArray, List.getElem_cons_zero, List.getElem_cons_succ, Act.put, List.setIfInBounds_toArray, List.set_cons_zero, List.set_cons_succ, Array.toArray_toList]
        refine wpAnyH_take (i := 8) (v := .bool false) rfl (by kernel_rfl) (by kernel_rfl) (by kernel_rfl) (fun _ _ _ h => h) (Or.inl ⟨by rfl, by (intro w hSw; (try dsimp only at hSw); go_simp; try (first | omega | (rw [IntKind.wrap_i64]; omega)))⟩) (by assumption) ?_
        try simp only [List.getElem_toArray, List.getElem_cons_zero, List.getElem_cons_succ, Act.put, List.setIfInBounds_toArray, List.set_cons_zero, List.set_cons_succ, Array.toArray_toList]
        refine wpAnyH_take (i := 9) (v := .pointer (some ⟨p, 0, none⟩)) rfl (by kernel_rfl) (by kernel_rfl) (by kernel_rfl) (fun _ _ _ h => h) (Or.inl ⟨by rfl, by (intro w hSw; (try dsimp only at hSw); go_simp; try (first | omega | (rw [IntKind.wrap_i64]; omega)))⟩) (by assumption) ?_
        try simp only [List.getElem_toArray, List.getElem_cons_zero, List.getElem_cons_succ, Act.put, List.setIfInBounds_toArray, List.set_cons_zero, List.set_cons_succ, Array.toArray_toList]
        refine wpAnyH_take (i := 11) (v := .pointer (some ⟨g, 0, none⟩)) rfl (by kernel_rfl) (by kernel_rfl) (by kernel_rfl) (fun _ _ _ h => h) (Or.inl ⟨by rfl, by (intro w hSw; (try dsimp only at hSw); go_simp; try (first | omega | (rw [IntKind.wrap_i64]; omega)))⟩) (by assumption) ?_
        try simp only [List.getElem_toArray, List.getElem_cons_zero, List.getElem_cons_succ, Act.put, List.setIfInBounds_toArray, List.set_cons_zero, List.set_cons_succ, Array.toArray_toList]
        refine wpAnyH_take (i := 12) (v := .pointer (some ⟨g, 0, none⟩)) rfl (by kernel_rfl) (by kernel_rfl) (by kernel_rfl) (fun _ _ _ h => h) (Or.inl ⟨by rfl, by (intro w hSw; (try dsimp only at hSw); go_simp; try (first | omega | (rw [IntKind.wrap_i64]; omega)))⟩) (by assumption) ?_
        try simp only [List.getElem_toArray, List.getElem_cons_zero, List.getElem_cons_succ, Act.put, List.setIfInBounds_toArray, List.set_cons_zero, List.set_cons_succ, Array.toArray_toList]
        refine wpAnyH_take (i := 13) (v := .pointer (some ⟨g, 0, none⟩)) rfl (by kernel_rfl) (by kernel_rfl) (by kernel_rfl) (fun _ _ _ h => h) (Or.inl ⟨by rfl, by (intro w hSw; (try dsimp only at hSw); go_simp; try (first | omega | (rw [IntKind.wrap_i64]; omega)))⟩) (by assumption) ?_
        try simp only [List.getElem_toArray, List.getElem_cons_zero, List.getElem_cons_succ, Act.put, List.setIfInBounds_toArray, List.set_cons_zero, List.set_cons_succ, Array.toArray_toList]
        refine wpAnyH_take (i := 14) (v := .slice qz mz cz) rfl (by kernel_rfl) (by kernel_rfl) (by kernel_rfl) (fun _ _ _ h => h) (Or.inl ⟨by rfl, by (intro w hSw; (try dsimp only at hSw); go_simp; try (first | omega | (rw [IntKind.wrap_i64]; omega)))⟩) (by assumption) ?_
        try simp only [List.getElem_toArray, List.getElem_cons_zero, List.getElem_cons_succ, Act.put, List.setIfInBounds_toArray, List.set_cons_zero, List.set_cons_succ, Array.toArray_toList]
        refine wpAnyH_take (i := 15) (v := .int .i64 mz) rfl (by kernel_rfl) (by kernel_rfl) (by kernel_rfl) (fun _ _ _ h => h) (Or.inl ⟨by rfl, by (intro w hSw; (try dsimp only at hSw); go_simp; try (first | omega | (rw [IntKind.wrap_i64]; omega)))⟩) (by assumption) ?_
        try simp only [List.getElem_toArray, List.getElem_cons_zero, List.getElem_cons_succ, Act.put, List.setIfInBounds_toArray, List.set_cons_zero, List.set_cons_succ, Array.toArray_toList]
        refine wpAnyH_ready (rs := [10]) (by kernel_rfl) (by simp) ?_
        refine AllReadyH.cons (i := 10) rfl (fun K hK => ?_) AllReadyH.nil
        go_simp
        go_at_call 18
        refine (HLZ.out _ hzz).mono ?_
        rintro e wl2 ⟨rfl, rfl⟩
        refine hK.out _ _ (HCZ.out _ hzz) (fun hHeld1 => ?_)
        clear hK K
        try simp only [List.getElem_toArray, List.getElem_cons_zero, List.getElem_cons_succ, Act.put, List.setIfInBounds_toArray, List.set_cons_zero, List.set_cons_succ, Array.toArray_toList]
        refine wpAnyH_take (i := 16) (v := .bool false) rfl (by kernel_rfl) (by kernel_rfl) (by kernel_rfl) (fun _ _ _ h => h) (Or.inl ⟨by rfl, by (intro w hSw; (try dsimp only at hSw); go_simp; try (first | omega | (rw [IntKind.wrap_i64]; omega)))⟩) (by assumption) ?_
        try simp only [List.getElem_toArray, List.getElem_cons_zero, List.getElem_cons_succ, Act.put, List.setIfInBounds_toArray, List.set_cons_zero, List.set_cons_succ, Array.toArray_toList]
        refine wpAnyH_take (i := 17) (v := .bool false) rfl (by kernel_rfl) (by kernel_rfl) (by kernel_rfl) (fun _ _ _ h => h) (Or.inl ⟨by rfl, by (intro w hSw; (try dsimp only at hSw); go_simp; try (first | omega | (rw [IntKind.wrap_i64]; omega)))⟩) (by assumption) ?_
        try simp only [List.getElem_toArray, List.getElem_cons_zero, List.getElem_cons_succ, Act.put, List.setIfInBounds_toArray, List.set_cons_zero, List.set_cons_succ, Array.toArray_toList]
        refine wpAnyH_done (by kernel_rfl) ?_ _
        refine NoPanic.normal ?_
        clear hHeld hHeld1
        have HPN := Lib.hid (show PlS w w4.drew p g ((l.take (I + 1)).foldl stepA []) ((l.take (I + 1)).foldl stepA []) from by rw [HST.out, HSP.out]; exact HPE.out.ext hzz)
        go_wp2_with fail
        go_roundw
        case rel => exact ⟨I + 1, by omega, by go_num, HPN.out⟩
        case measure => simp [intOf]; omega
      by_cases h1 : x.d = 1
      case pos =>
        rw [h1] at z0
        obtain ⟨F, B, rv, rvs, hs1, hlt, hF, hrf⟩ := HPS.out
        have HSV := Lib.hid (testS_any p L x.f x.n x.hi x.lo wA hs1 HOK.out.2.1 HOK.out.2.2.1 HOK.out.2.2.2.1 HOK.out.2.2.2.2.1)
        have HF := Lib.hid hF
        have HLT := Lib.hid hlt
        have HRF := Lib.hid hrf
        have HIL := Lib.hid hs1.inv
        have HSP := Lib.hid (show stepA L x = (testP L x.f x.n x.hi x.lo).2 from by unfold stepA; rw [if_neg h0, if_pos h1])
        clear hs1 hlt hF hrf HPS
        skip
        go_wp2_with fail
        refine HSV.out.mono ?_
        obtain ⟨R, hR⟩ : ∃ R, R = testP L x.f x.n x.hi x.lo := ⟨_, rfl⟩
        rw [← hR] at HSP ⊢
        rintro e w3 ⟨rfl, F', hto⟩
        have hp3 := PlS.sOp HD.out.ex HF.out HRF.out hto
        have HZ3 := Lib.hid (HZA.out w3 (HZB.out F HLT.out w3 hto.kp))
        have HZK := Lib.hid (show Ext w wA from HD.out.ex)
        obtain ⟨F3, B3, rv3, rvs3, hs3, hF3, hr3⟩ := hp3.st
        have HRV := Lib.hid (refTest_any g L rv3 rvs3 x.f x.n x.hi x.lo w3 hr3 hp3.ex.size HIL.out HOK.out.2.1 HOK.out.2.2.1)
        have HX3 := Lib.hid hp3.ex
        have HS3 := Lib.hid hs3
        have HF3 := Lib.hid hF3
        have HR3 := Lib.hid hr3
        rw [← hR] at HRV
        obtain ⟨ar, har⟩ : ∃ ar, ar = R.1.1 := ⟨_, rfl⟩
        obtain ⟨er, her⟩ : ∃ er, er = R.1.2 := ⟨_, rfl⟩
        have HAR := Lib.hid har
        have HER := Lib.hid her
        rw [← har, ← her]
        clear hto hp3 hs3 hF3 hr3 hR har her HSV z0 z1 z2 z3 z4 z5
        obtain ⟨z0, z1, z2, z3, z4, z5⟩ := HZ3.out
        rw [h1] at z0
        go_wp2_with fail
        refine HRV.out.mono ?_
        intro e w4 hp
        have HPE := Lib.hid (PlS.rOp HX3.out HS3.out HF3.out HR3.out hp)
        obtain ⟨rfl, -⟩ := hp
        rw [← HAR.out, ← HER.out]
        clear HRV
        obtain ⟨L2, hL2⟩ : ∃ L2, L2 = R.2 := ⟨_, rfl⟩
        rw [← hL2] at HPE HSP
        clear hL2
        obtain ⟨-, qz, cz, hcg, -, hlen, -, -⟩ := HPE.out.look
        obtain ⟨mz, hmz⟩ : ∃ mz, mz = L2.length := ⟨_, rfl⟩
        rw [← hmz] at hcg
        have HLZ := Lib.hid (fun W hW => hlen W hW)
        rw [← hmz] at HLZ
        have HCZ := Lib.hid hcg
        have hzz : Ext w4 w4.drew := Ext.drew _
        clear hcg hlen hmz z0 z1 z2 z3 z4 z5
        go_upto_region 22 with fail
        refine wp_region_noPanic ?_
        refine wp_region_held_drew (S := (fun W : World => W.cell? ⟨g, 0, none⟩ = some (.slice qz mz cz))) (by kernel_rfl) (HCZ.out _ hzz) (fun hHeld => ?_)
        refine wpAnyH_take (i := 0) (v := .int .i64 ar) rfl (by kernel_rfl) (by kernel_rfl) (by kernel_rfl) (fun _ _ _ h => h) (Or.inl ⟨by rfl, by (intro w hSw; (try dsimp only at hSw); go_simp; try (first | omega | (rw [IntKind.wrap_i64]; omega)))⟩) (by assumption) ?_
        try simp only [List.getElem_toArray, List.getElem_cons_zero, List.getElem_cons_succ, Act.put, List.setIfInBounds_toArray, List.set_cons_zero, List.set_cons_succ, Array.toArray_toList]
        refine wpAnyH_take (i := 1) (v := .int .i64 ar) rfl (by kernel_rfl) (by kernel_rfl) (by kernel_rfl) (fun _ _ _ h => h) (Or.inl ⟨by rfl, by (intro w hSw; (try dsimp only at hSw); go_simp; try (first | omega | (rw [IntKind.wrap_i64]; omega)))⟩) (by assumption) ?_
        try simp only [List.getElem_toArray, List.getElem_cons_zero, List.getElem_cons_succ, Act.put, List.setIfInBounds_toArray, List.set_cons_zero, List.set_cons_succ, Array.toArray_toList]
        refine wpAnyH_take (i := 2) (v := .bool false) rfl (by kernel_rfl) (by kernel_rfl) (by kernel_rfl) (fun _ _ _ h => h) (Or.inl ⟨by rfl, by (intro w hSw; (try dsimp only at hSw); go_simp; try (first | omega | (rw [IntKind.wrap_i64]; omega)))⟩) (by assumption) ?_
        try simp only [List.getElem_toArray, List.getElem_cons_zero, List.getElem_cons_succ, Act.put, List.setIfInBounds_toArray, List.set_cons_zero, List.set_cons_succ, Array.toArray_toList]
        refine wpAnyH_take (i := 3) (v := .bool false) rfl (by kernel_rfl) (by kernel_rfl) (by kernel_rfl) (fun _ _ _ h => h) (Or.inl ⟨by rfl, by (intro w hSw; (try dsimp only at hSw); go_simp; try (first | omega | (rw [IntKind.wrap_i64]; omega)))⟩) (by assumption) ?_
        try simp only [List.getElem_toArray, List.getElem_cons_zero, List.getElem_cons_succ, Act.put, List.setIfInBounds_toArray, List.set_cons_zero, List.set_cons_succ, Array.toArray_toList]
        refine wpAnyH_take (i := 4) (v := .int .i64 er) rfl (by kernel_rfl) (by kernel_rfl) (by kernel_rfl) (fun _ _ _ h => h) (Or.inl ⟨by rfl, by (intro w hSw; (try dsimp only at hSw); go_simp; try (first | omega | (rw [IntKind.wrap_i64]; omega)))⟩) (by assumption) ?_
        try simp only [List.getElem_toArray, List.getElem_cons_zero, List.getElem_cons_succ, Act.put, List.setIfInBounds_toArray, List.set_cons_zero, List.set_cons_succ, Array.toArray_toList]
        refine wpAnyH_take (i := 5) (v := .int .i64 er) rfl (by kernel_rfl) (by kernel_rfl) (by kernel_rfl) (fun _ _ _ h => h) (Or.inl ⟨by rfl, by (intro w hSw; (try dsimp only at hSw); go_simp; try (first | omega | (rw [IntKind.wrap_i64]; omega)))⟩) (by assumption) ?_
        try simp only [List.getElem_toArray, List.getElem_cons_zero, List.getElem_cons_succ, Act.put, List.setIfInBounds_toArray, List.set_cons_zero, List.set_cons_succ, Array.toArray_toList]
        refine wpAnyH_take (i := 6) (v := .bool false) rfl (by kernel_rfl) (by kernel_rfl) (by kernel_rfl) (fun _ _ _ h => h) (Or.inl ⟨by rfl, by (intro w hSw; (try dsimp only at hSw); go_simp; try (first | omega | (rw [IntKind.wrap_i64]; omega)))⟩) (by assumption) ?_
        try simp only [List.getElem_toArray, List.getElem_cons_zero, List.getElem_cons_succ, Act.put, List.setIfInBounds_toArray, List.set_cons_zero, List.set_cons_succ, Array.toArray_toList]
        refine wpAnyH_take (i := 7) (v := .bool false) rfl (by kernel_rfl) (by kernel_rfl) (by kernel_rfl) (fun _ _ _ h => h) (Or.inl ⟨by rfl, by (intro w hSw; (try dsimp only at hSw); go_simp; try (first | omega | (rw [IntKind.wrap_i64]; omega)))⟩) (by assumption) ?_
        try simp only [List.getElem_toArray, List.getElem_cons_zero, List.getElem_cons_succ, Act.put, List.setIfInBounds_toArray, List.set_cons_zero, List.set_cons_succ, Array.toArray_toList]
        refine wpAnyH_take (i := 8) (v := .bool false) rfl (by kernel_rfl) (by kernel_rfl) (by kernel_rfl) (fun _ _ _ h => h) (Or.inl ⟨by rfl, by (intro w hSw; (try dsimp only at hSw); go_simp; try (first | omega | (rw [IntKind.wrap_i64]; omega)))⟩) (by assumption) ?_
        try simp only [List.getElem_toArray, List.getElem_cons_zero, List.getElem_cons_succ, Act.put, List.setIfInBounds_toArray, List.set_cons_zero, List.set_cons_succ, Array.toArray_toList]
        refine wpAnyH_take (i := 9) (v := .pointer (some ⟨p, 0, none⟩)) rfl (by kernel_rfl) (by kernel_rfl) (by kernel_rfl) (fun _ _ _ h => h) (Or.inl ⟨by rfl, by (intro w hSw; (try dsimp only at hSw); go_simp; try (first | omega | (rw [IntKind.wrap_i64]; omega)))⟩) (by assumption) ?_
        try simp only [List.getElem_toArray, List.getElem_cons_zero, List.getElem_cons_succ, Act.put, List.setIfInBounds_toArray, List.set_cons_zero, List.set_cons_succ, Array.toArray_toList]
        refine wpAnyH_take (i := 11) (v := .pointer (some ⟨g, 0, none⟩)) rfl (by kernel_rfl) (by kernel_rfl) (by kernel_rfl) (fun _ _ _ h => h) (Or.inl ⟨by rfl, by (intro w hSw; (try dsimp only at hSw); go_simp; try (first | omega | (rw [IntKind.wrap_i64]; omega)))⟩) (by assumption) ?_
        try simp only [List.getElem_toArray, List.getElem_cons_zero, List.getElem_cons_succ, Act.put, List.setIfInBounds_toArray, List.set_cons_zero, List.set_cons_succ, Array.toArray_toList]
        refine wpAnyH_take (i := 12) (v := .pointer (some ⟨g, 0, none⟩)) rfl (by kernel_rfl) (by kernel_rfl) (by kernel_rfl) (fun _ _ _ h => h) (Or.inl ⟨by rfl, by (intro w hSw; (try dsimp only at hSw); go_simp; try (first | omega | (rw [IntKind.wrap_i64]; omega)))⟩) (by assumption) ?_
        try simp only [List.getElem_toArray, List.getElem_cons_zero, List.getElem_cons_succ, Act.put, List.setIfInBounds_toArray, List.set_cons_zero, List.set_cons_succ, Array.toArray_toList]
        refine wpAnyH_take (i := 13) (v := .pointer (some ⟨g, 0, none⟩)) rfl (by kernel_rfl) (by kernel_rfl) (by kernel_rfl) (fun _ _ _ h => h) (Or.inl ⟨by rfl, by (intro w hSw; (try dsimp only at hSw); go_simp; try (first | omega | (rw [IntKind.wrap_i64]; omega)))⟩) (by assumption) ?_
        try simp only [List.getElem_toArray, List.getElem_cons_zero, List.getElem_cons_succ, Act.put, List.setIfInBounds_toArray, List.set_cons_zero, List.set_cons_succ, Array.toArray_toList]
        refine wpAnyH_take (i := 14) (v := .slice qz mz cz) rfl (by kernel_rfl) (by kernel_rfl) (by kernel_rfl) (fun _ _ _ h => h) (Or.inl ⟨by rfl, by (intro w hSw; (try dsimp only at hSw); go_simp; try (first | omega | (rw [IntKind.wrap_i64]; omega)))⟩) (by assumption) ?_
        try simp only [List.getElem_toArray, List.getElem_cons_zero, List.getElem_cons_succ, Act.put, List.setIfInBounds_toArray, List.set_cons_zero, List.set_cons_succ, Array.toArray_toList]
        refine wpAnyH_take (i := 15) (v := .int .i64 mz) rfl (by kernel_rfl) (by kernel_rfl) (by kernel_rfl) (fun _ _ _ h => h) (Or.inl ⟨by rfl, by (intro w hSw; (try dsimp only at hSw); go_simp; try (first | omega | (rw [IntKind.wrap_i64]; omega)))⟩) (by assumption) ?_
        try simp only [List.getElem_toArray, List.getElem_cons_zero, List.getElem_cons_succ, Act.put, List.setIfInBounds_toArray, List.set_cons_zero, List.set_cons_succ, Array.toArray_toList]
        refine wpAnyH_ready (rs := [10]) (by kernel_rfl) (by simp) ?_
        refine AllReadyH.cons (i := 10) rfl (fun K hK => ?_) AllReadyH.nil
        go_simp
        go_at_call 18
        refine (HLZ.out _ hzz).mono ?_
        rintro e wl2 ⟨rfl, rfl⟩
        refine hK.out _ _ (HCZ.out _ hzz) (fun hHeld1 => ?_)
        clear hK K
        try simp only [List.getElem_toArray, List.getElem_cons_zero, List.getElem_cons_succ, Act.put, List.setIfInBounds_toArray, List.set_cons_zero, List.set_cons_succ, Array.toArray_toList]
        refine wpAnyH_take (i := 16) (v := .bool false) rfl (by kernel_rfl) (by kernel_rfl) (by kernel_rfl) (fun _ _ _ h => h) (Or.inl ⟨by rfl, by (intro w hSw; (try dsimp only at hSw); go_simp; try (first | omega | (rw [IntKind.wrap_i64]; omega)))⟩) (by assumption) ?_
        try simp only [List.getElem_toArray, List.getElem_cons_zero, List.getElem_cons_succ, Act.put, List.setIfInBounds_toArray, List.set_cons_zero, List.set_cons_succ, Array.toArray_toList]
        refine wpAnyH_take (i := 17) (v := .bool false) rfl (by kernel_rfl) (by kernel_rfl) (by kernel_rfl) (fun _ _ _ h => h) (Or.inl ⟨by rfl, by (intro w hSw; (try dsimp only at hSw); go_simp; try (first | omega | (rw [IntKind.wrap_i64]; omega)))⟩) (by assumption) ?_
        try simp only [List.getElem_toArray, List.getElem_cons_zero, List.getElem_cons_succ, Act.put, List.setIfInBounds_toArray, List.set_cons_zero, List.set_cons_succ, Array.toArray_toList]
        refine wpAnyH_done (by kernel_rfl) ?_ _
        refine NoPanic.normal ?_
        clear hHeld hHeld1
        have HPN := Lib.hid (show PlS w w4.drew p g ((l.take (I + 1)).foldl stepA []) ((l.take (I + 1)).foldl stepA []) from by rw [HST.out, HSP.out]; exact HPE.out.ext hzz)
        go_wp2_with fail
        go_roundw
        case rel => exact ⟨I + 1, by omega, by go_num, HPN.out⟩
        case measure => simp [intOf]; omega
      have HSP := Lib.hid (show stepA L x = L from by unfold stepA; rw [if_neg h0, if_neg h1])
      have q0 : (x.d == 0) = false := by rw [beq_eq_false_iff_ne]; exact h0
      have q1 : (x.d == 1) = false := by rw [beq_eq_false_iff_ne]; exact h1
      obtain ⟨hIL, -, -, -, -, -, hget, hrget⟩ := HD.out.look
      have HGT := Lib.hid (hget wA (Ext.refl _) x.hi HOK.out.2.2.2.1)
      have HRG := Lib.hid (fun W (hW : Ext wA W) => hrget hIL W hW x.hi HOK.out.2.2.2.1)
      clear hIL hget hrget
      have HZE := Lib.hid (fun W (hW : Ext wA W) => HZA.out W fun k => World.cell?_of_block (a := ⟨wo.heap.size, k, none⟩) (Below.block hW wo.heap.size (World.block_lt_of_cell? _ _ z0)))
      go_wp2_with fail
      refine HGT.out.mono ?_
      rintro e w3 ⟨⟨v3, rfl, hv3⟩, hx3⟩
      obtain ⟨ok, hok'⟩ : ∃ ok, ok = (getP L x.hi).isSome := ⟨_, rfl⟩
      obtain ⟨nd, hnd⟩ : ∃ nd, nd = (getP L x.hi).getD zNode := ⟨_, rfl⟩
      rw [← hnd] at hv3
      rw [← hok']
      have HND := Lib.hid (And.intro hnd hok')
      clear hnd hok'
      obtain ⟨q3, n3, c3, rfl, hr3⟩ := node_form hv3
      obtain ⟨w4, h4⟩ : ∃ W : World, w3.alloc (.cells #[.int .i8 nd.f, .int .u64 nd.n, .int .i64 nd.hi, .int .i64 nd.lo, .slice q3 n3 c3] 41) = W := ⟨_, rfl⟩
      have x4 : Ext w3 w4 := h4 ▸ Ext.alloc _ _
      have HC4 := Lib.hid (fun W (hW : Ext w4 W) => show W.cell? ⟨w3.heap.size, 0, none⟩ = some (.int .i8 nd.f) ∧ W.cell? ⟨w3.heap.size, 1, none⟩ = some (.int .u64 nd.n) ∧ W.cell? ⟨w3.heap.size, 2, none⟩ = some (.int .i64 nd.hi) ∧ W.cell? ⟨w3.heap.size, 3, none⟩ = some (.int .i64 nd.lo) ∧ W.cell? ⟨w3.heap.size, 4, none⟩ = some (.slice q3 n3 c3) from by
        have h5 : w4.cell? ⟨w3.heap.size, 0, none⟩ = some (.int .i8 nd.f) ∧ w4.cell? ⟨w3.heap.size, 1, none⟩ = some (.int .u64 nd.n) ∧ w4.cell? ⟨w3.heap.size, 2, none⟩ = some (.int .i64 nd.hi) ∧ w4.cell? ⟨w3.heap.size, 3, none⟩ = some (.int .i64 nd.lo) ∧ w4.cell? ⟨w3.heap.size, 4, none⟩ = some (.slice q3 n3 c3) := by rw [← h4]; exact pl_cell5 _ _ _ _ _ _
        exact ⟨hW.later _ _ h5.1, hW.later _ _ h5.2.1, hW.later _ _ h5.2.2.1, hW.later _ _ h5.2.2.2.1, hW.later _ _ h5.2.2.2.2⟩)
      have HX4 := Lib.hid (hx3.trans x4)
      have HR4 := Lib.hid (show RowsOn AnyB w4 nd.leaf (.slice q3 n3 c3) from hr3.ext x4)
      have HE4 := Lib.hid h4
      clear h4 hx3 x4 hv3 hr3 HGT z0 z1 z2 z3 z4 z5
      obtain ⟨z0, z1, z2, z3, z4, z5⟩ := HZE.out w4 HX4.out
      go_upto_region 13 with fail
      rw [HE4.out]
      clear HE4
      go_wp2_with fail
      refine (HRG.out w4 HX4.out).mono ?_
      rintro e w5 ⟨⟨v5, rfl, hv5⟩, hx5⟩
      rw [← HND.out.1] at hv5
      rw [← HND.out.2]
      obtain ⟨q5, n5, c5, rfl, hr5⟩ := node_form hv5
      obtain ⟨w6, h6⟩ : ∃ W : World, w5.alloc (.cells #[.int .i8 nd.f, .int .u64 nd.n, .int .i64 nd.hi, .int .i64 nd.lo, .slice q5 n5 c5] 41) = W := ⟨_, rfl⟩
      have x6 : Ext w5 w6 := h6 ▸ Ext.alloc _ _
      obtain ⟨y0, y1, y2, y3, y4⟩ : w6.cell? ⟨w5.heap.size, 0, none⟩ = some (.int .i8 nd.f) ∧ w6.cell? ⟨w5.heap.size, 1, none⟩ = some (.int .u64 nd.n) ∧ w6.cell? ⟨w5.heap.size, 2, none⟩ = some (.int .i64 nd.hi) ∧ w6.cell? ⟨w5.heap.size, 3, none⟩ = some (.int .i64 nd.lo) ∧ w6.cell? ⟨w5.heap.size, 4, none⟩ = some (.slice q5 n5 c5) := by rw [← h6]; exact pl_cell5 _ _ _ _ _ _
      obtain ⟨a0, a1, a2, a3, a4⟩ := HC4.out w6 (hx5.trans x6)
      have HX6 := Lib.hid (HX4.out.trans (hx5.trans x6))
      have HAL := Lib.hid (alike_any (B := AnyB) (C := AnyB) nd nd _ _ w6 ⟨_, rfl, HR4.out.ext (hx5.trans x6)⟩ ⟨_, rfl, show RowsOn AnyB w6 nd.leaf (.slice q5 n5 c5) from hr5.ext x6⟩)
      rw [decide_eq_true rfl] at HAL
      have HE6 := Lib.hid h6
      clear h6 hx5 x6 hv5 hr5 HRG
      go_upto_region 14 with fail
      rw [HE6.out]
      clear HE6
      go_wp2_with fail
      refine HAL.out.mono ?_
      rintro e w7 ⟨rfl, hx7⟩
      have HPE := Lib.hid (HD.out.ext (HX6.out.trans hx7))
      clear y0 y1 y2 y3 y4 a0 a1 a2 a3 a4 HAL
      obtain ⟨L2, hL2⟩ : ∃ L2, L2 = L := ⟨_, rfl⟩
      have HSP' := Lib.hid (show stepA L x = L2 from HSP.out.trans hL2.symm)
      clear HSP
      have HSP := HSP'
      rw [← hL2] at HPE
      clear hL2
      obtain ⟨-, qz, cz, hcg, -, hlen, -, -⟩ := HPE.out.look
      obtain ⟨mz, hmz⟩ : ∃ mz, mz = L2.length := ⟨_, rfl⟩
      rw [← hmz] at hcg
      have HLZ := Lib.hid (fun W hW => hlen W hW)
      rw [← hmz] at HLZ
      have HCZ := Lib.hid hcg
      have hzz : Ext w7 w7.drew := Ext.drew _
      clear hcg hlen hmz z0 z1 z2 z3 z4 z5
      go_upto_region 22 with fail
      refine wp_region_noPanic ?_
      refine wp_region_held_drew (S := (fun W : World => W.cell? ⟨g, 0, none⟩ = some (.slice qz mz cz))) (by kernel_rfl) (HCZ.out _ hzz) (fun hHeld => ?_)
      refine wpAnyH_take (i := 0) (v := .int .i64 0) rfl (by kernel_rfl) (by kernel_rfl) (by kernel_rfl) (fun _ _ _ h => h) (Or.inl ⟨by rfl, by (intro w hSw; (try dsimp only at hSw); go_simp; try (first | omega | (rw [IntKind.wrap_i64]; omega)))⟩) (by assumption) ?_
      try simp only [List.getElem_toArray, List.getElem_cons_zero, List.getElem_cons_succ, Act.put, List.setIfInBounds_toArray, List.set_cons_zero, List.set_cons_succ, Array.toArray_toList]
      refine wpAnyH_take (i := 1) (v := .int .i64 0) rfl (by kernel_rfl) (by kernel_rfl) (by kernel_rfl) (fun _ _ _ h => h) (Or.inl ⟨by rfl, by (intro w hSw; (try dsimp only at hSw); go_simp; try (first | omega | (rw [IntKind.wrap_i64]; omega)))⟩) (by assumption) ?_
      try simp only [List.getElem_toArray, List.getElem_cons_zero, List.getElem_cons_succ, Act.put, List.setIfInBounds_toArray, List.set_cons_zero, List.set_cons_succ, Array.toArray_toList]
      refine wpAnyH_take (i := 2) (v := .bool false) rfl (by kernel_rfl) (by kernel_rfl) (by kernel_rfl) (fun _ _ _ h => h) (Or.inl ⟨by rfl, by (intro w hSw; (try dsimp only at hSw); go_simp; try (first | omega | (rw [IntKind.wrap_i64]; omega)))⟩) (by assumption) ?_
      try simp only [List.getElem_toArray, List.getElem_cons_zero, List.getElem_cons_succ, Act.put, List.setIfInBounds_toArray, List.set_cons_zero, List.set_cons_succ, Array.toArray_toList]
      refine wpAnyH_take (i := 3) (v := .bool false) rfl (by kernel_rfl) (by kernel_rfl) (by kernel_rfl) (fun _ _ _ h => h) (Or.inl ⟨by rfl, by (intro w hSw; (try dsimp only at hSw); go_simp; try (first | omega | (rw [IntKind.wrap_i64]; omega)))⟩) (by assumption) ?_
      try simp only [List.getElem_toArray, List.getElem_cons_zero, List.getElem_cons_succ, Act.put, List.setIfInBounds_toArray, List.set_cons_zero, List.set_cons_succ, Array.toArray_toList]
      refine wpAnyH_take (i := 4) (v := .int .i64 0) rfl (by kernel_rfl) (by kernel_rfl) (by kernel_rfl) (fun _ _ _ h => h) (Or.inl ⟨by rfl, by (intro w hSw; (try dsimp only at hSw); go_simp; try (first | omega | (rw [IntKind.wrap_i64]; omega)))⟩) (by assumption) ?_
      try simp only [List.getElem_toArray, List.getElem_cons_zero, List.getElem_cons_succ, Act.put, List.setIfInBounds_toArray, List.set_cons_zero, List.set_cons_succ, Array.toArray_toList]
      refine wpAnyH_take (i := 5) (v := .int .i64 0) rfl (by kernel_rfl) (by kernel_rfl) (by kernel_rfl) (fun _ _ _ h => h) (Or.inl ⟨by rfl, by (intro w hSw; (try dsimp only at hSw); go_simp; try (first | omega | (rw [IntKind.wrap_i64]; omega)))⟩) (by assumption) ?_
      try simp only [List.getElem_toArray, List.getElem_cons_zero, List.getElem_cons_succ, Act.put, List.setIfInBounds_toArray, List.set_cons_zero, List.set_cons_succ, Array.toArray_toList]
      refine wpAnyH_take (i := 6) (v := .bool false) rfl (by kernel_rfl) (by kernel_rfl) (by kernel_rfl) (fun _ _ _ h => h) (Or.inl ⟨by rfl, by (intro w hSw; (try dsimp only at hSw); go_simp; try (first | omega | (rw [IntKind.wrap_i64]; omega)))⟩) (by assumption) ?_
      try simp only [List.getElem_toArray, List.getElem_cons_zero, List.getElem_cons_succ, Act.put, List.setIfInBounds_toArray, List.set_cons_zero, List.set_cons_succ, Array.toArray_toList]
      refine wpAnyH_take (i := 7) (v := .bool false) rfl (by kernel_rfl) (by kernel_rfl) (by kernel_rfl) (fun _ _ _ h => h) (Or.inl ⟨by rfl, by (intro w hSw; (try dsimp only at hSw); go_simp; try (first | omega | (rw [IntKind.wrap_i64]; omega)))⟩) (by assumption) ?_
      try simp only [List.getElem_toArray, List.getElem_cons_zero, List.getElem_cons_succ, Act.put, List.setIfInBounds_toArray, List.set_cons_zero, List.set_cons_succ, Array.toArray_toList]
      refine wpAnyH_take (i := 8) (v := .bool false) rfl (by kernel_rfl) (by kernel_rfl) (by kernel_rfl) (fun _ _ _ h => h) (Or.inl ⟨by rfl, by (intro w hSw; (try dsimp only at hSw); go_simp; try (first | omega | (rw [IntKind.wrap_i64]; omega)))⟩) (by assumption) ?_
      try simp only [List.getElem_toArray, List.getElem_cons_zero, List.getElem_cons_succ, Act.put, List.setIfInBounds_toArray, List.set_cons_zero, List.set_cons_succ, Array.toArray_toList]
      refine wpAnyH_take (i := 9) (v := .pointer (some ⟨p, 0, none⟩)) rfl (by kernel_rfl) (by kernel_rfl) (by kernel_rfl) (fun _ _ _ h => h) (Or.inl ⟨by rfl, by (intro w hSw; (try dsimp only at hSw); go_simp; try (first | omega | (rw [IntKind.wrap_i64]; omega)))⟩) (by assumption) ?_
      try simp only [List.getElem_toArray, List.getElem_cons_zero, List.getElem_cons_succ, Act.put, List.setIfInBounds_toArray, List.set_cons_zero, List.set_cons_succ, Array.toArray_toList]
      refine wpAnyH_take (i := 11) (v := .pointer (some ⟨g, 0, none⟩)) rfl (by kernel_rfl) (by kernel_rfl) (by kernel_rfl) (fun _ _ _ h => h) (Or.inl ⟨by rfl, by (intro w hSw; (try dsimp only at hSw); go_simp; try (first | omega | (rw [IntKind.wrap_i64]; omega)))⟩) (by assumption) ?_
      try simp only [List.getElem_toArray, List.getElem_cons_zero, List.getElem_cons_succ, Act.put, List.setIfInBounds_toArray, List.set_cons_zero, List.set_cons_succ, Array.toArray_toList]
      refine wpAnyH_take (i := 12) (v := .pointer (some ⟨g, 0, none⟩)) rfl (by kernel_rfl) (by kernel_rfl) (by kernel_rfl) (fun _ _ _ h => h) (Or.inl ⟨by rfl, by (intro w hSw; (try dsimp only at hSw); go_simp; try (first | omega | (rw [IntKind.wrap_i64]; omega)))⟩) (by assumption) ?_
      try simp only [List.getElem_toArray, List.getElem_cons_zero, List.getElem_cons_succ, Act.put, List.setIfInBounds_toArray, List.set_cons_zero, List.set_cons_succ, Array.toArray_toList]
      refine wpAnyH_take (i := 13) (v := .pointer (some ⟨g, 0, none⟩)) rfl (by kernel_rfl) (by kernel_rfl) (by kernel_rfl) (fun _ _ _ h => h) (Or.inl ⟨by rfl, by (intro w hSw; (try dsimp only at hSw); go_simp; try (first | omega | (rw [IntKind.wrap_i64]; omega)))⟩) (by assumption) ?_
      try simp only [List.getElem_toArray, List.getElem_cons_zero, List.getElem_cons_succ, Act.put, List.setIfInBounds_toArray, List.set_cons_zero, List.set_cons_succ, Array.toArray_toList]
      refine wpAnyH_take (i := 14) (v := .slice qz mz cz) rfl (by kernel_rfl) (by kernel_rfl) (by kernel_rfl) (fun _ _ _ h => h) (Or.inl ⟨by rfl, by (intro w hSw; (try dsimp only at hSw); go_simp; try (first | omega | (rw [IntKind.wrap_i64]; omega)))⟩) (by assumption) ?_
      try simp only [List.getElem_toArray, List.getElem_cons_zero, List.getElem_cons_succ, Act.put, List.setIfInBounds_toArray, List.set_cons_zero, List.set_cons_succ, Array.toArray_toList]
      refine wpAnyH_take (i := 15) (v := .int .i64 mz) rfl (by kernel_rfl) (by kernel_rfl) (by kernel_rfl) (fun _ _ _ h => h) (Or.inl ⟨by rfl, by (intro w hSw; (try dsimp only at hSw); go_simp; try (first | omega | (rw [IntKind.wrap_i64]; omega)))⟩) (by assumption) ?_
      try simp only [List.getElem_toArray, List.getElem_cons_zero, List.getElem_cons_succ, Act.put, List.setIfInBounds_toArray, List.set_cons_zero, List.set_cons_succ, Array.toArray_toList]
      refine wpAnyH_ready (rs := [10]) (by kernel_rfl) (by simp) ?_
      refine AllReadyH.cons (i := 10) rfl (fun K hK => ?_) AllReadyH.nil
      go_simp
      go_at_call 18
      refine (HLZ.out _ hzz).mono ?_
      rintro e wl2 ⟨rfl, rfl⟩
      refine hK.out _ _ (HCZ.out _ hzz) (fun hHeld1 => ?_)
      clear hK K
      try simp only [List.getElem_toArray, List.getElem_cons_zero, List.getElem_cons_succ, Act.put, List.setIfInBounds_toArray, List.set_cons_zero, List.set_cons_succ, Array.toArray_toList]
      refine wpAnyH_take (i := 16) (v := .bool false) rfl (by kernel_rfl) (by kernel_rfl) (by kernel_rfl) (fun _ _ _ h => h) (Or.inl ⟨by rfl, by (intro w hSw; (try dsimp only at hSw); go_simp; try (first | omega | (rw [IntKind.wrap_i64]; omega)))⟩) (by assumption) ?_
      try simp only [List.getElem_toArray, List.getElem_cons_zero, List.getElem_cons_succ, Act.put, List.setIfInBounds_toArray, List.set_cons_zero, List.set_cons_succ, Array.toArray_toList]
      refine wpAnyH_take (i := 17) (v := .bool false) rfl (by kernel_rfl) (by kernel_rfl) (by kernel_rfl) (fun _ _ _ h => h) (Or.inl ⟨by rfl, by (intro w hSw; (try dsimp only at hSw); go_simp; try (first | omega | (rw [IntKind.wrap_i64]; omega)))⟩) (by assumption) ?_
      try simp only [List.getElem_toArray, List.getElem_cons_zero, List.getElem_cons_succ, Act.put, List.setIfInBounds_toArray, List.set_cons_zero, List.set_cons_succ, Array.toArray_toList]
      refine wpAnyH_done (by kernel_rfl) ?_ _
      refine NoPanic.normal ?_
      clear hHeld hHeld1
      have HPN := Lib.hid (show PlS w w7.drew p g ((l.take (I + 1)).foldl stepA []) ((l.take (I + 1)).foldl stepA []) from by rw [HST.out, HSP.out]; exact HPE.out.ext hzz)
      go_wp2_with fail
      go_roundw
      case rel => exact ⟨I + 1, by omega, by go_num, HPN.out⟩
      case measure => simp [intOf]; omega
end Go.Proofs.YtehdddilcakmlaaDoor

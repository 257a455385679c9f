/- The document's store; put (law 20). -/
import Derived.Test.YtehdddilcakmlaaDoorNRef3
import Derived.Test.YtehdddilcakmlaaDoorNAdd
import Derived.Test.YtehdddilcakmlaaDoorNPut
namespace Go.Proofs.YtehdddilcakmlaaDoor
open Go.RowKit Go.Sort Go.Maps Go.Lib
set_option linter.unusedSimpArgs false

structure RfS (B : Nat → Prop) (lo : Nat) (w : World) (g : Nat) (L : List NdD) (rv : Value) (rvs : List Value) : Prop where
  c : w.cell? ⟨g, 0, none⟩ = some rv
  fz : w.frozen? ⟨g, 0, none⟩ = false
  gb : lo ≤ g
  o : w.ownsRow lo 41 5 rv L.length (flatN L rvs)
  v : NodesV B w L rvs
  nb : ∀ b, B b → b ≠ g ∧ rv.ownBlock ≠ some b
  ne : rv.ownBlock ≠ some g
theorem RfS.ext {B : Nat → Prop} {lo : Nat} {w w' : World} {g : Nat} {L : List NdD} {rv : Value} {rvs : List Value} (h : RfS B lo w g L rv rvs) (hx : Ext w w') : RfS B lo w' g L rv rvs :=
  ⟨hx.later _ _ h.c, by rw [Below.frozen hx (World.block_lt_of_cell? w _ h.c)]; exact h.fz, h.gb, owns_ext h.o hx, h.v.keep hx.size (fun b _ hlt => Below.block hx b hlt), h.nb, h.ne⟩
def PutR (B C : Nat → Prop) (lo : Nat) (w : World) (g : Nat) (rv : Value) (R : (Int × Int) × List NdD) (e : Ending) (w' : World) : Prop := e = .returned (.tuple #[.int .i64 R.1.1, .int .i64 R.1.2]) ∧ ∃ B' rv' rvs', RfS B' lo w' g R.2 rv' rvs' ∧ Keep (fun b => b = g ∨ rv.ownBlock = some b) w w' ∧ (∀ b, rv'.ownBlock = some b → rv.ownBlock = some b ∨ w.heap.size ≤ b) ∧ ∀ b, B' b → B b ∨ C b ∨ w.heap.size ≤ b
theorem PutR.same {B C : Nat → Prop} {lo : Nat} {w w' : World} {g : Nat} {L : List NdD} {rv : Value} {rvs : List Value} {R : (Int × Int) × List NdD} {a c : Int} (h : RfS B lo w g L rv rvs) (hx : Ext w w') (hR : R = ((a, c), L)) : PutR B C lo w g rv R (.returned (.tuple #[.int .i64 a, .int .i64 c])) w' := by
  subst hR
  exact ⟨rfl, B, rv, rvs, h.ext hx, hx.keep _, fun b hb => .inl hb, fun b hb => .inl hb⟩
theorem PutR.from {B C : Nat → Prop} {lo : Nat} {w w1 w' : World} {g : Nat} {rv : Value} {R : (Int × Int) × List NdD} {e : Ending} (hx : Ext w w1) (h : PutR B C lo w1 g rv R e w') (hC : ∀ b, C b → w.heap.size ≤ b) : PutR B (fun _ => False) lo w g rv R e w' := by
  obtain ⟨he, B', rv', rvs', h1, h2, h3, h4⟩ := h
  refine ⟨he, B', rv', rvs', h1, (hx.keep _).trans h2, fun b hb => (h3 b hb).imp id fun h => Nat.le_trans hx.size h, fun b hb => ?_⟩
  rcases h4 b hb with h5 | h5 | h5
  · exact .inl h5
  · exact .inr (.inr (hC b h5))
  · exact .inr (.inr (Nat.le_trans hx.size h5))
theorem leaf_ok {L : List NdD} (h : InvL L) {x : NdD} (hx : x ∈ L) : ∀ r ∈ x.leaf, okR r = true := by
  rcases (h.2.2 x hx).2 with ⟨l, -, hl, -⟩ | ⟨-, hl⟩
  · exact rowsP_ok hl
  · rw [hl]; intro r hr; cases hr
theorem nd_eq {x y : NdD} : y = x ↔ (y.f = x.f ∧ y.n = x.n ∧ y.hi = x.hi ∧ y.lo = x.lo ∧ y.leaf = x.leaf) := by
  cases x; cases y; simp
/-- the store behind one node more -/
theorem RfS.added {B C : Nat → Prop} {lo : Nat} {w w2 : World} {g : Nat} {L : List NdD} {rv rv' xv : Value} {rvs : List Value} {x : NdD} (h : RfS B lo w g L rv rvs) (hlo : lo ≤ w.heap.size) (hC : ∀ b, C b → b ≠ g ∧ rv.ownBlock ≠ some b) (hxv : RowsOn C w x.leaf xv)
    (ho : w2.ownsRow lo 41 5 rv' (L.length + 1) (flatN L rvs ++ x.cs xv)) (hc : w2.cell? ⟨g, 0, none⟩ = some rv') (hf : w2.frozen? ⟨g, 0, none⟩ = false)
    (hat : rv'.ownBlock = rv.ownBlock ∨ ∃ b, rv'.ownBlock = some b ∧ w.heap.size ≤ b) (hk : Keep (fun b => b = g ∨ rv.ownBlock = some b) w w2) :
    ∃ B', RfS B' lo w2 g (L ++ [x]) rv' (rvs ++ [xv]) ∧ (∀ b, rv'.ownBlock = some b → rv.ownBlock = some b ∨ w.heap.size ≤ b) ∧ ∀ b, B' b → B b ∨ C b ∨ w.heap.size ≤ b := by
  have hg : g < w.heap.size := World.block_lt_of_cell? w _ h.c
  have hstay : ∀ D : Nat → Prop, (∀ b, D b → b ≠ g ∧ rv.ownBlock ≠ some b) → ∀ b, D b → b < w.heap.size → w2.heap[b]? = w.heap[b]? := fun D hD b hb hlt => hk.block b hlt fun e => e.elim (hD b hb).1 (hD b hb).2
  refine ⟨fun b => (B b ∨ C b) ∧ b < w.heap.size, ⟨hc, hf, h.gb, ?_, ?_, fun b hb => ?_, ?_⟩, fun b hb => ?_, fun b hb => hb.1.imp id fun h => .inl h⟩
  · rw [flatN_snoc h.v.1, List.length_append]; exact ho
  · refine NodesV.snoc ?_ ?_
    · exact (h.v.mono (C := fun b => B b ∧ b < w.heap.size) (fun b hlt hb => ⟨hb, hlt⟩)).keep hk.size (fun b hb hlt => hstay B h.nb b hb.1 hlt) |>.mono fun b _ hb => ⟨.inl hb.1, hb.2⟩
    · exact (hxv.mono (C := fun b => C b ∧ b < w.heap.size) (fun b hlt hb => ⟨hb, hlt⟩)).keep hk.size (fun b hb hlt => hstay C hC b hb.1 hlt) |>.mono fun b _ hb => ⟨.inr hb.1, hb.2⟩
  · have h1 : b ≠ g ∧ rv.ownBlock ≠ some b := hb.1.elim (h.nb b) (hC b)
    refine ⟨h1.1, ?_⟩
    rcases hat with e | ⟨b', e, hb'⟩
    · rw [e]; exact h1.2
    · intro e2
      have h3 : b' = b := by rw [e] at e2; exact Option.some.inj e2
      have h4 : b < w.heap.size := hb.2
      omega
  · rcases hat with e | ⟨b', e, hb'⟩
    · rw [e]; exact h.ne
    · intro e2
      have h3 : b' = g := by rw [e] at e2; exact Option.some.inj e2
      omega
  · rcases hat with e | ⟨b', e, hb'⟩
    · exact .inl (e ▸ hb)
    · obtain rfl : b' = b := by rw [e] at hb; exact Option.some.inj hb
      exact .inr hb'

set_option maxHeartbeats 16000000 in
set_option maxRecDepth 100000 in
theorem refPut_any {B C : Nat → Prop} {lo : Nat} (g : Nat) (L : List NdD) (rv : Value) (rvs : List Value) (x : NdD) (xv : Value) (w : World) (h : RfS B lo w g L rv rvs) (hlo : lo ≤ w.heap.size) (hL : InvL L) (hC : ∀ b, C b → b ≠ g ∧ rv.ownBlock ≠ some b) (hxv : RowsOn C w x.leaf xv) (hxo : ∀ r ∈ x.leaf, okR r = true) :
    Calls Tryd.prog 25 #[.pointer (some ⟨g, 0, none⟩), .agg #[.int .i8 x.f, .int .u64 x.n, .int .i64 x.hi, .int .i64 x.lo, xv]] w (PutR B C lo w g rv (putN L x)) := by
  have HS := Lib.hid h
  have HIL := Lib.hid hL
  have HXO := Lib.hid hxo
  have HC := Lib.hid hC
  have HXV := Lib.hid hxv
  have HNE := Lib.hid h.ne
  have hgl : g < w.heap.size := World.block_lt_of_cell? w _ h.c
  have hxv1 : xv.oneCell' = true := by obtain ⟨p, a, b, rfl, -⟩ := hxv; rfl
  obtain ⟨pX, nX, kX, rfl, -⟩ := hxv
  obtain ⟨wA, hA⟩ : ∃ W : World, w.alloc (.cells #[.int .i8 x.f, .int .u64 x.n, .int .i64 x.hi, .int .i64 x.lo, .slice pX nX kX] 41) = W := ⟨_, rfl⟩
  have xA : Ext w wA := hA ▸ Ext.alloc _ _
  have sA : wA.heap.size = w.heap.size + 1 := by rw [← hA, World.size_alloc]
  have b0 : wA.cell? ⟨w.heap.size, 0, none⟩ = some (.int .i8 x.f) := by rw [← hA]; simp [go_sem]
  have b1 : wA.cell? ⟨w.heap.size, 1, none⟩ = some (.int .u64 x.n) := by rw [← hA]; simp [go_sem]
  have b2 : wA.cell? ⟨w.heap.size, 2, none⟩ = some (.int .i64 x.hi) := by rw [← hA]; simp [go_sem]
  have b3 : wA.cell? ⟨w.heap.size, 3, none⟩ = some (.int .i64 x.lo) := by rw [← hA]; simp [go_sem]
  have b4 : wA.cell? ⟨w.heap.size, 4, none⟩ = some (.slice pX nX kX) := by rw [← hA]; simp [go_sem]
  have HBX := Lib.hid (fun W (hW : Ext wA W) => show W.cell? ⟨w.heap.size, 0, none⟩ = some (.int .i8 x.f) ∧ W.cell? ⟨w.heap.size, 1, none⟩ = some (.int .u64 x.n) ∧ W.cell? ⟨w.heap.size, 2, none⟩ = some (.int .i64 x.hi) ∧ W.cell? ⟨w.heap.size, 3, none⟩ = some (.int .i64 x.lo) ∧ W.cell? ⟨w.heap.size, 4, none⟩ = some (.slice pX nX kX) from ⟨hW.later _ _ b0, hW.later _ _ b1, hW.later _ _ b2, hW.later _ _ b3, hW.later _ _ b4⟩)
  obtain ⟨q, cq, rfl, -⟩ := owns_form h.o
  obtain ⟨n, hn⟩ : ∃ n, n = L.length := ⟨_, rfl⟩
  have HN := Lib.hid hn
  have HCG := Lib.hid (fun W (hW : Ext wA W) => show W.cell? ⟨g, 0, none⟩ = some (.slice q n cq) from by rw [hn]; exact hW.later _ _ (xA.later _ _ h.c))
  have hnb : n ≤ 65536 := by rw [hn]; exact hL.2.1
  have HNC := Lib.hid (show ∀ i, i < L.length → ∃ gb c, q = some ⟨gb, 0, none⟩ ∧ c = cq ∧ ∀ W, Ext wA W → ∀ hi : i < L.length, ∃ u, W.rangeAt gb (i * 5) ((L[i]).cs u) ∧ RowsOn B W (L[i]).leaf u from fun i hi => by
    rcases owns_range h.o with ⟨h0, -⟩ | ⟨gb, c, he, -, -, hr⟩
    · omega
    · cases he
      exact ⟨gb, cq, rfl, rfl, fun W hW hi => ⟨_, World.rangeAt.later (xA.trans hW).later (nodeCells h.v.1 hr i hi), (h.v.2 i hi (by rw [h.v.1]; exact hi)).ext (xA.trans hW)⟩⟩)
  have HXA := Lib.hid xA
  have HEQ := Lib.hid hA
  have HPU := Lib.hid (show putN L x = match findN L x with | some i => (((i : Int), 0), L) | none => addN L x from rfl)
  generalize putN L x = R at *
  clear h hL hC hxo xA hA hn b0 b1 b2 b3 b4
  go_enter Tryd.func25, Tryd.ntmps25
  go_upto_region 1 with fail
  rw [HEQ.out]
  clear HEQ
  go_wp2_with fail
  go_loopw [6] (fun i wr => ∃ I : Nat, I ≤ n ∧ i = .int .i64 I ∧ Hid (∀ j (h : j < L.length), j < I → L[j] ≠ x) ∧ Hid (Ext wA wr)) (fun i _ => n - (intOf i).toNat)
  case atStart => exact ⟨0, Nat.zero_le _, rfl, (fun j h h2 => by omega), Ext.refl _⟩
  case round =>
    obtain ⟨wo, rfl⟩ : ∃ wo : World, wo = wr := ⟨_, rfl⟩
    obtain ⟨I, hI, rfl, hno, hx⟩ := hrel
    have cg := HCG.out wo hx.out
    by_cases hI1 : I < n
    case pos =>
      have hIl : I < L.length := by rw [← HN.out]; exact hI1
      obtain ⟨gb, _, rfl, rfl, hcell⟩ := HNC.out I hIl
      obtain ⟨u, hr, hrow⟩ := hcell wo hx.out hIl
      obtain ⟨y, hy⟩ : ∃ y, y = L[I] := ⟨_, rfl⟩
      have HYM := Lib.hid (show L[I]? = some y from by rw [hy]; exact List.getElem?_eq_getElem hIl)
      rw [← hy] at hr hrow
      have HROW := Lib.hid hrow
      obtain ⟨pY, nY, kY, rfl, -⟩ := hrow
      have HNX := Lib.hid (show y ≠ x → ∀ j (h : j < L.length), j < I + 1 → L[j] ≠ x from fun hne j h h2 => by
        rcases Nat.lt_succ_iff_lt_or_eq.1 h2 with h3 | rfl
        · exact hno.out j h h3
        · rw [← hy]; exact hne)
      have d0 : wo.cell? ⟨gb, I * 5, none⟩ = some (.int .i8 y.f) := by simpa using hr 0 _ rfl
      have d1 : wo.cell? ⟨gb, I * 5 + 1, none⟩ = some (.int .u64 y.n) := hr 1 _ rfl
      have d2 : wo.cell? ⟨gb, I * 5 + 2, none⟩ = some (.int .i64 y.hi) := hr 2 _ rfl
      have d3 : wo.cell? ⟨gb, I * 5 + 3, none⟩ = some (.int .i64 y.lo) := hr 3 _ rfl
      have d4 : wo.cell? ⟨gb, I * 5 + 4, none⟩ = some (.slice pY nY kY) := hr 4 _ rfl
      obtain ⟨w4, h4⟩ : ∃ W : World, wo.alloc (.cells #[.int .i8 y.f, .int .u64 y.n, .int .i64 y.hi, .int .i64 y.lo, .slice pY nY kY] 41) = W := ⟨_, rfl⟩
      have x4 : Ext wo w4 := h4 ▸ Ext.alloc _ _
      have HE4 := Lib.hid h4
      have HX4 := Lib.hid (hx.out.trans x4)
      have HZ := Lib.hid (show w4.cell? ⟨wo.heap.size, 0, none⟩ = some (.int .i8 y.f) ∧ w4.cell? ⟨wo.heap.size, 1, none⟩ = some (.int .u64 y.n) ∧ w4.cell? ⟨wo.heap.size, 2, none⟩ = some (.int .i64 y.hi) ∧ w4.cell? ⟨wo.heap.size, 3, none⟩ = some (.int .i64 y.lo) ∧ w4.cell? ⟨wo.heap.size, 4, none⟩ = some (.slice pY nY kY) from by rw [← h4]; exact ⟨by simp [go_sem], by simp [go_sem], by simp [go_sem], by simp [go_sem], by simp [go_sem]⟩)
      have HAL := Lib.hid (refAlike_any y.leaf x.leaf _ _ w4 (HROW.out.ext x4) ((HXV.out.ext HXA.out).ext HX4.out) (leaf_ok HIL.out (List.mem_of_getElem? HYM.out)) HXO.out)
      clear hy hr h4 x4 hno
      go_upto_region 5 with fail
      rw [HE4.out]
      clear HE4 d0 d1 d2 d3 d4 cg hx
      obtain ⟨z0, z1, z2, z3, z4⟩ := HZ.out
      obtain ⟨b0, b1, b2, b3, b4⟩ := HBX.out w4 HX4.out
      by_cases e0 : y.f = x.f
      case neg =>
        have q0 : (y.f == x.f) = false := by rw [beq_eq_false_iff_ne]; exact e0
        have HN2 := Lib.hid (HNX.out fun e => e0 (by rw [e]))
        clear e0
        go_wp2_with fail
        go_roundw
        case rel => exact ⟨I + 1, by omega, by go_num, HN2.out, HX4.out⟩
        case measure => simp [intOf]; omega
      have q0 : (y.f == x.f) = true := by rw [beq_iff_eq]; exact e0
      by_cases e1 : y.n = x.n
      case neg =>
        have q1 : (y.n == x.n) = false := by rw [beq_eq_false_iff_ne]; exact e1
        have HN2 := Lib.hid (HNX.out fun e => e1 (by rw [e]))
        clear e1
        go_wp2_with fail
        go_roundw
        case rel => exact ⟨I + 1, by omega, by go_num, HN2.out, HX4.out⟩
        case measure => simp [intOf]; omega
      have q1 : (y.n == x.n) = true := by rw [beq_iff_eq]; exact e1
      by_cases e2 : y.hi = x.hi
      case neg =>
        have q2 : (y.hi == x.hi) = false := by rw [beq_eq_false_iff_ne]; exact e2
        have HN2 := Lib.hid (HNX.out fun e => e2 (by rw [e]))
        clear e2
        go_wp2_with fail
        go_roundw
        case rel => exact ⟨I + 1, by omega, by go_num, HN2.out, HX4.out⟩
        case measure => simp [intOf]; omega
      have q2 : (y.hi == x.hi) = true := by rw [beq_iff_eq]; exact e2
      by_cases e3 : y.lo = x.lo
      case neg =>
        have q3 : (y.lo == x.lo) = false := by rw [beq_eq_false_iff_ne]; exact e3
        have HN2 := Lib.hid (HNX.out fun e => e3 (by rw [e]))
        clear e3
        go_wp2_with fail
        go_roundw
        case rel => exact ⟨I + 1, by omega, by go_num, HN2.out, HX4.out⟩
        case measure => simp [intOf]; omega
      have q3 : (y.lo == x.lo) = true := by rw [beq_iff_eq]; exact e3
      have HF := Lib.hid (show y.leaf = x.leaf → y = x from fun e => nd_eq.2 ⟨e0, e1, e2, e3, e⟩)
      go_wp2_with fail
      refine HAL.out.mono ?_
      rintro e w5 ⟨rfl, hx5⟩
      by_cases hle : y.leaf = x.leaf
      · have HFD := Lib.hid (show R = (((I : Int), 0), L) from by
          rw [HPU.out]
          have h3 := HYM.out
          rw [HF.out hle] at h3
          rw [findN_at HIL.out.1 h3])
        rw [decide_eq_true hle]
        clear z0 z1 z2 z3 z4 b0 b1 b2 b3 b4 e0 e1 e2 e3 q0 q1 q2 q3
        go_wp2_with fail
        go_ret2
        exact PutR.same HS.out (HXA.out.trans (HX4.out.trans hx5)) HFD.out
      · have HN2 := Lib.hid (HNX.out fun e => hle (by rw [e]))
        rw [decide_eq_false hle]
        clear z0 z1 z2 z3 z4 b0 b1 b2 b3 b4 e0 e1 e2 e3 q0 q1 q2 q3
        go_wp2_with fail
        go_roundw
        case rel => exact ⟨I + 1, by omega, by go_num, HN2.out, HX4.out.trans hx5⟩
        case measure => simp [intOf]; omega
    obtain rfl : I = n := by omega
    have HFN := Lib.hid (show R = addN L x from by
      rw [HPU.out, findN_none fun i hi => ?_]
      obtain ⟨hi1, hi2⟩ := List.getElem?_eq_some_iff.1 hi
      exact hno.out i hi1 (by have := HN.out; omega) hi2)
    clear hno
    have hIb : (I : Int) ≤ 9223372036854775807 := by omega
    have HLB := Lib.hid hnb
    clear hnb hI1
    by_cases hbig : 65536 ≤ I
    · have HFD := Lib.hid (show R = ((0, 200), L) from by
        rw [HFN.out]; unfold addN; rw [if_pos (by have := HN.out; omega)])
      have hdl : decide ((65536 : Int) ≤ (I : Int)) = true := by simp; omega
      clear hbig
      go_wp2_with fail
      go_ret2
      exact PutR.same HS.out (HXA.out.trans hx.out) HFD.out
    have HFD := Lib.hid (show R = (((I : Int), 0), L ++ [x]) from by
      rw [HFN.out]; unfold addN; rw [if_neg (by have := HN.out; omega), HN.out])
    have hdl : decide ((65536 : Int) ≤ (I : Int)) = false := by simp; omega
    have HLL := Lib.hid (show I < 65536 from by omega)
    have HOWN := Lib.hid (fun W (hW : Ext wo W) => show W.ownsRow lo 41 5 (.slice q I cq) I (flatN L rvs) from by
      have h3 := owns_ext (owns_ext (owns_ext HS.out.o HXA.out) hx.out) hW
      rwa [← HN.out] at h3)
    have h1 : ∀ v ∈ x.cs (.slice pX nX kX), v.oneCell' = true := by
      intro v hv
      simp [NdD.cs] at hv
      rcases hv with rfl | rfl | rfl | rfl | rfl <;> rfl
    have H1 := Lib.hid h1
    have hgo : g < wo.heap.size := Nat.lt_of_lt_of_le hgl (HXA.out.trans hx.out).size
    have hloo : lo ≤ wo.heap.size := Nat.le_trans hlo (HXA.out.trans hx.out).size
    have f0 : wo.frozen? ⟨g, 0, none⟩ = false := by rw [Below.frozen (HXA.out.trans hx.out) hgl]; exact HS.out.fz
    obtain ⟨b0, b1, b2, b3, b4⟩ := HBX.out wo hx.out
    have HNE2 := Lib.hid (show (Value.slice q I cq).ownBlock ≠ some g from by have h3 := HNE.out; rwa [← HN.out] at h3)
    have HP := Lib.hid (fun w' rv' (ho : w'.ownsRow lo 41 5 rv' (I + 1) (flatN L rvs ++ x.cs (.slice pX nX kX))) (hc : w'.cell? ⟨g, 0, none⟩ = some rv') (hf : w'.frozen? ⟨g, 0, none⟩ = false)
        (hat : rv'.ownBlock = (Value.slice q I cq).ownBlock ∨ ∃ b, rv'.ownBlock = some b ∧ wo.heap.size ≤ b) (hk : Keep (fun b => b = g ∨ (Value.slice q I cq).ownBlock = some b) wo w') => show PutR B C lo w g (.slice q L.length cq) R (.returned (.tuple #[.int .i64 I, .int .i64 0])) w' from by
      rw [← HN.out]
      have hx0 := HXA.out.trans hx.out
      have h3 := HS.out.ext hx0
      have hC3 := HC.out
      rw [← HN.out] at h3 hC3
      have hk0 : Keep (fun b => b = g ∨ (Value.slice q I cq).ownBlock = some b) w w' := (hx0.keep _).trans hk
      have h4 := RfS.added (x := x) h3 hloo hC3 (HXV.out.ext hx0) (by rw [← HN.out]; exact ho) hc hf hat hk
      obtain ⟨B', h5, h6, h7⟩ := h4
      refine ⟨by rw [HFD.out], B', rv', _, by rw [HFD.out]; exact h5, hk0, fun b hb => (h6 b hb).imp id fun h => Nat.le_trans hx0.size h, fun b hb => ?_⟩
      rcases h7 b hb with h8 | h8 | h8
      · exact .inl h8
      · exact .inr (.inl h8)
      · exact .inr (.inr (Nat.le_trans hx0.size h8)))
    clear hbig h1
    go_upto_region 9 with fail
    go_region_law (first
      | (refine step_one_E elemN zeroNd rfl _ rfl #[.int .i8 x.f, .int .u64 x.n, .int .i64 x.hi, .int .i64 x.lo, .slice pX nX kX] (by rfl) rfl ?_)
      | (refine step_append_E elemN rfl _ _ rfl lo (.slice q I cq) I (flatN L rvs) (by rfl) (HOWN.out _ (by repeat (first | exact Ext.refl _ | refine Ext.andDrew ?_ | refine Ext.andAlloc ?_ _))) (some ⟨wo.heap.size, 0, none⟩) 1 1 (x.cs (.slice pX nX kX)) (by rfl) rfl (.inr ⟨_, rfl, fun i u hu => by
          match i, hu with
          | 0, hu => simp [NdD.cs] at hu; subst hu; simp [go_sem]
          | 1, hu => simp [NdD.cs] at hu; subst hu; simp [go_sem]
          | 2, hu => simp [NdD.cs] at hu; subst hu; simp [go_sem]
          | 3, hu => simp [NdD.cs] at hu; subst hu; simp [go_sem]
          | 4, hu => simp [NdD.cs] at hu; subst hu; simp [go_sem]
          | i + 5, hu => simp [NdD.cs] at hu⟩) H1.out (by have := HLL.out; omega) (by have := HLL.out; omega) (by simp; omega) ?_; intro v' w' o1 g1 t1; obtain ⟨pv, cv, rfl, hcv, hcv2⟩ := owns_form o1; have cp := g1.cell (a := ⟨g, 0, none⟩) (v := .slice q I cq) (by simp [go_sem, hgo, cg]) (fun e => HNE2.out e.symm); have fp := (World.frozen?_of_block (a := ⟨g, 0, none⟩) (g1.block g (by simp; omega) (fun e => HNE2.out e.symm))).trans (show _ = false from by simp [go_sem, hgo, f0])))
    all_goals (
      have hnp : (Value.slice pv (I + 1) cv).ownBlock ≠ some g := by
        rcases t1 with e | e
        · rw [e]; exact HNE2.out
        · rw [e]; intro e2; injection e2 with e2; simp at e2; omega
      have hgs : w'.grownBy (w'.setCell ⟨g, 0, none⟩ (.slice pv (I + 1) cv)) (some g) := Keep.grownBy (Keep.set (S := (· = g)) w' ⟨g, 0, none⟩ _ rfl)
      have HPO := Lib.hid (HP.out (w'.setCell ⟨g, 0, none⟩ (.slice pv (I + 1) cv)) _ (o1.kept hgs (.inr hnp)) (World.cell?_setCell_same w' ⟨g, 0, none⟩ _ cp) (by rw [World.frozen?_setCell]; exact fp) (by
          rcases t1 with e | e
          · exact .inl e
          · exact .inr ⟨_, e, by simp⟩) (by
          have k1 : Keep (fun b => b = g ∨ (Value.slice q I cq).ownBlock = some b) wo w' := by
            refine (Ext.keep (by repeat (first | exact Ext.refl _ | refine Ext.andDrew ?_ | refine Ext.andAlloc ?_ _)) _).trans ⟨g1.os, g1.tape, g1.output, g1.size, fun b hb hs => g1.block b hb (fun e => hs (.inr e.symm))⟩
          exact k1.trans (Keep.set w' ⟨g, 0, none⟩ _ (.inl rfl))))
      have cn := World.cell?_setCell_same w' ⟨g, 0, none⟩ (.slice pv (I + 1) cv) cp
      clear g1 o1 t1 hgs hnp b0 b1 b2 b3 b4 cg
      go_wp2_with fail
      go_ret2
      exact HPO.out)
end Go.Proofs.YtehdddilcakmlaaDoor

/- (*Store).Leaf. -/
import Derived.Test.YtehdddilcakmlaaDoorNPut
namespace Go.Proofs.YtehdddilcakmlaaDoor
open Go.RowKit Go.Sort Go.Maps Go.Lib
set_option linter.unusedSimpArgs false

set_option maxHeartbeats 2000000 in
theorem addBig_any {F : Nat → Prop} (p : Nat) (L : List NdD) (w : World) (h : St F w p L) (f n hi lo : Int) (xv : Value) (hl : 65536 ≤ L.length) :
    Calls Tryd.prog 23 #[.pointer (some ⟨p, 0, none⟩), .agg #[.int .i8 f, .int .u64 n, .int .i64 hi, .int .i64 lo, xv]] w fun e w' => e = .returned (.tuple #[.int .i64 0, .int .i64 200]) ∧ Ext w w' := by
  obtain ⟨lv, mt, ml, lvs, T, S, h⟩ := h
  have c0 := h.c0
  obtain ⟨wA, hA⟩ : ∃ W : World, w.alloc (.cells #[.int .i8 f, .int .u64 n, .int .i64 hi, .int .i64 lo, xv] 41) = W := ⟨_, rfl⟩
  have xA : Ext w wA := hA ▸ Ext.alloc _ _
  have c0 := xA.later _ _ h.c0
  have hb := h.inv.2.1
  obtain ⟨q, c, rfl, -⟩ := owns_form h.own
  obtain ⟨m, hm⟩ : ∃ m, m = L.length := ⟨_, rfl⟩
  rw [← hm] at c0 hl hb
  have hdl : decide ((65536 : Int) ≤ (m : Int)) = true := by simp; omega
  have HXA := Lib.hid xA
  have HEQ := Lib.hid hA
  clear h hm xA hA hl hb
  go_enter Tryd.func23, Tryd.ntmps23
  go_upto_region 1 with fail
  rw [HEQ.out]
  go_wp2_with fail
  go_ret2
  exact ⟨rfl, HXA.out⟩

theorem okA_ok {a : AcD} (h : okA a = true) : a.ok := by
  have h1 := okA_bd h
  refine ⟨by omega, by omega, h1.2.2.2, ?_⟩
  simp only [okA, Bool.and_eq_true] at h
  have h2 := h.2
  unfold fitsB fitsK at h2
  split at h2
  · cases h2
  rw [beq_iff_eq] at h2
  obtain ⟨k, hk, hk2⟩ := widthI_le a.f
  rw [hk, Int.toNat_natCast] at h2
  have hp : (0 : Int) < 2 ^ k := Int.pow_pos (by omega)
  have h3 : a.n < 2 ^ k := by
    by_cases h4 : a.n < 2 ^ k
    · exact h4
    · exfalso
      have h7 : (1 : Int) ≤ a.n / 2 ^ k := Int.le_ediv_of_mul_le hp (by rw [Int.one_mul]; exact Int.not_lt.1 h4)
      rw [h2] at h7
      omega
  have h5 : (2 : Int) ^ k ≤ 2 ^ 48 := by
    have := Nat.pow_le_pow_right (n := 2) (by omega) hk2
    exact_mod_cast this
  have h6 : (2 : Int) ^ 48 = 281474976710656 := by rfl
  omega
theorem actsK_len : ∀ (r : RowD), okR r = true → (r.flatMap actK).length ≤ r.length * 43
  | [], _ => by simp
  | a :: r, h => by
    simp only [okR, List.all_cons, Bool.and_eq_true] at h
    have h1 := actK_len a (okA_ok h.1)
    have h2 := actsK_len r h.2
    rw [List.flatMap_cons, List.length_append, List.length_cons]
    omega
theorem keyK_len : ∀ (l : List RowD), (∀ r ∈ l, okR r = true) → (∀ r ∈ l, r.length ≤ 10000) → (keyK l).length ≤ l.length * 430001
  | [], _, _ => by simp [keyK]
  | r :: l, h, hl => by
    have h1 := actsK_len r (h r List.mem_cons_self)
    have h2 := keyK_len l (fun x hx => h x (List.mem_cons_of_mem _ hx)) (fun x hx => hl x (List.mem_cons_of_mem _ hx))
    have h3 := hl r List.mem_cons_self
    have e : keyK (r :: l) = r.flatMap actK ++ [59] ++ keyK l := by simp [keyK, rowK]
    rw [e, List.length_append, List.length_append, List.length_cons, List.length_cons]
    simp only [List.length_nil]
    omega
def OpPost (F : Nat → Prop) (w : World) (p : Nat) (R : (Int × Int) × List NdD) (e : Ending) (w' : World) : Prop := e = .returned (.tuple #[.int .i64 R.1.1, .int .i64 R.1.2]) ∧ ∃ F', StTo F w w' p R.2 F'
theorem OpPost.same {F : Nat → Prop} {w w' : World} {p : Nat} {L : List NdD} {R : (Int × Int) × List NdD} {a c : Int} (h : St F w p L) (hx : Ext w w') (hR : R = ((a, c), L)) : OpPost F w p R (.returned (.tuple #[.int .i64 a, .int .i64 c])) w' := by
  subst hR
  exact ⟨rfl, F, h.to hx⟩

set_option maxHeartbeats 8000000 in
set_option maxRecDepth 100000 in
theorem leafS_any {F B : Nat → Prop} (p : Nat) (L : List NdD) (l : List RowD) (v : Value) (w : World) (h : St F w p L) (hv : RowsOn B w l v) (hl : l.length ≤ 20000) (hrl : ∀ r ∈ l, r.length ≤ 10000) (ht : Tb w) :
    Calls Tryd.prog 11 #[.pointer (some ⟨p, 0, none⟩), v] w (OpPost F w p (leafP L l)) := by
  have HST := Lib.hid h
  have HRW := Lib.hid (rows_any l v w hv hl hrl)
  have HTB := Lib.hid ht
  obtain ⟨pv, lv0, cv, rfl⟩ : ∃ a b c, v = .slice a b c := by obtain ⟨a, b, c, he, -⟩ := hv; exact ⟨a, b, c, he⟩
  have HLE := Lib.hid (show leafP L l = (match rowsP l with
    | none => ((0, 2), L)
    | some r => if 64 < r.length then ((0, 200), L) else putN L ⟨-1, 0, 0, 0, r⟩) from rfl)
  have HRR := Lib.hid (fun m (hm : rowsP l = some m) => And.intro (rowsP_ok hm) (fun r (hr : r ∈ m) => show r.length ≤ 10000 from by
    obtain ⟨s, hs, hp, -⟩ := rowsP_row hm r hr
    rw [hp.length_eq]; exact hrl s hs))
  clear hv hrl ht h
  generalize leafP L l = R at *
  go_enter Tryd.func11, Tryd.ntmps11
  go_wp2_with fail
  refine HRW.out.mono ?_
  rintro e w1 ⟨hp, hx1⟩
  have HX1 := Lib.hid hx1
  unfold RowsPost at hp
  cases hR : rowsP l with
  | none =>
    rw [hR] at hp
    obtain rfl := hp
    have HF := Lib.hid (OpPost.same HST.out HX1.out (show R = ((0, 2), L) from by rw [HLE.out, hR]))
    clear hR hx1
    go_wp2_with fail
    go_ret2
    exact HF.out
  | some r =>
    rw [hR] at hp
    obtain ⟨u, rfl, hu⟩ := hp
    have HU := Lib.hid hu
    have HOKS := Lib.hid (HRR.out r hR)
    have HLE2 := Lib.hid (show R = (if 64 < r.length then ((0, 200), L) else putN L ⟨-1, 0, 0, 0, r⟩) from by rw [HLE.out, hR])
    have HRS := Lib.hid hR
    obtain ⟨pu, lu, cu, rfl, hlu, -, -, -⟩ := hu
    have HLU := Lib.hid hlu
    clear hR hx1 hlu
    by_cases h64 : 64 < lu
    · have HF := Lib.hid (OpPost.same HST.out HX1.out (show R = ((0, 200), L) from by rw [HLE2.out, if_pos (by rw [← HLU.out]; exact h64)]))
      go_wp2_with fail
      go_ret2
      exact HF.out
    · have HLE3 := Lib.hid (show R = putN L ⟨-1, 0, 0, 0, r⟩ from by rw [HLE2.out, if_neg (by rw [← HLU.out]; exact h64)])
      have HKY := Lib.hid (key_any r (.slice pu lu cu) w1 HU.out (by have := HLU.out; omega) HOKS.out.2 (HTB.out.ext HX1.out))
      have hkl : (keyK r).length ≤ 9223372036854775807 := by
        have := keyK_len r HOKS.out.1 HOKS.out.2
        have := HLU.out
        omega
      obtain ⟨s, hs⟩ : ∃ s : Sk, s = ⟨keyK r, hkl⟩ := ⟨_, rfl⟩
      have HSK := Lib.hid (show s.1 = keyK r from by rw [hs])
      have hss : (Value.string ⟨(keyK r).toArray⟩) = kvS s := by rw [hs]; rfl
      rw [hss] at HKY
      clear hs hss hkl
      obtain ⟨sv, hsv⟩ : ∃ sv : ByteArray, sv = ⟨s.1.toArray⟩ := ⟨_, rfl⟩
      have HSV := Lib.hid (show kvS s = .string sv from by rw [hsv]; rfl)
      rw [HSV.out] at HKY
      clear hsv
      go_wp2_with fail
      refine HKY.out.mono ?_
      rintro e w2 ⟨rfl, hx2⟩
      have HX2 := Lib.hid (HX1.out.trans hx2)
      have HU2 := Lib.hid (HU.out.ext hx2)
      obtain ⟨lv, mt, ml, lvs, T, S, hM0⟩ := HST.out
      have HM := Lib.hid (hM0.keep HX2.out.size (fun b hb => Below.block HX2.out b (hM0.lt b hb)))
      have HM0 := Lib.hid hM0
      have c2 := HM.out.c2
      have hlk := run_lookup_of codedS Tryd.underlying57 HM.out.mS HM.out.nS s _ (zeroIv w2) true
      rw [HSV.out] at hlk
      clear hx2 hM0
      cases hls : look s S with
      | some id =>
        obtain ⟨i, r', rfl, hi, hk'⟩ := (HM.out.lS s id).1 hls
        have hrr : r = r' := by
          have hx : ∃ l', rowsP l' = some r' := by
            obtain ⟨-, hx⟩ := HM.out.inv.2.2 _ (List.mem_of_getElem? hi)
            rcases hx with ⟨l', -, h1, -⟩ | ⟨h1, -⟩
            · exact ⟨l', h1⟩
            · exact absurd (show (0 : Int) ≤ -1 from h1) (by omega)
          obtain ⟨l', hl'⟩ := hx
          exact keyK_inj HOKS.out.1 (rowsP_ok hl') (by rw [← HSK.out]; exact hk')
        have HF := Lib.hid (OpPost.same HST.out HX2.out (show R = (((i : Int), 0), L) from by
          rw [HLE3.out]
          unfold putN
          rw [findN_at HM.out.inv.1 (by rw [hrr]; exact hi)]))
        rw [hls] at hlk
        have HLK := Lib.hid (show (Instr.lookup 57 (.map (some ml)) (.string sv) true).run Tryd.prog w2 = .ok (.tuple #[.int .i64 i, .bool true]) w2 from hlk)
        clear hls hlk hi hk' hrr
        go_wp2_with (first | (refine wpList_lookup_run rfl 57 _ _ true rfl _ _ _ rfl rfl HLK.out ?_))
        go_ret2
        exact HF.out
      | none =>
        rw [hls] at hlk
        have HLK := Lib.hid (show (Instr.lookup 57 (.map (some ml)) (.string sv) true).run Tryd.prog w2 = .ok (.tuple #[.int .i64 0, .bool false]) w2 from hlk)
        have HNO := Lib.hid (show ∀ i : Nat, L[i]? ≠ some ⟨-1, 0, 0, 0, r⟩ from fun i hi => by
          have := (HM.out.lS s i).2 ⟨i, r, rfl, hi, HSK.out⟩
          rw [hls] at this; cases this)
        have HLS := Lib.hid hls
        have HLE4 := Lib.hid (show R = addN L ⟨-1, 0, 0, 0, r⟩ from by
          rw [HLE3.out]; unfold putN; rw [findN_none HNO.out])
        clear hls hlk
        by_cases hfull : 65536 ≤ L.length
        · have HF := Lib.hid (fun W (hW : Ext w2 W) => OpPost.same HST.out (HX2.out.trans hW) (show R = ((0, 200), L) from by
            rw [HLE4.out]; unfold addN; rw [if_pos hfull]))
          have HAD := Lib.hid (addBig_any p L w2 ⟨_, _, _, _, _, _, HM.out⟩ (-1) 0 0 0 (.slice pu lu cu) hfull)
          clear hfull
          go_wp2_with (first | (refine wpList_lookup_run rfl 57 _ _ true rfl _ _ _ rfl rfl HLK.out ?_))
          refine HAD.out.mono ?_
          rintro e w3 ⟨rfl, hx3⟩
          have HX3 := Lib.hid hx3
          clear hx3
          go_wp2_with fail
          go_ret2
          exact HF.out _ HX3.out
        · have HLE5 := Lib.hid (show R = (((L.length : Int), 0), L ++ [⟨-1, 0, 0, 0, r⟩]) from by rw [HLE4.out]; unfold addN; rw [if_neg hfull])
          have HAD := Lib.hid (addS_any p L lv mt ml lvs T S ⟨-1, 0, 0, 0, r⟩ (.slice pu lu cu) w2 HM.out (by omega) rfl)
          have HFU := Lib.hid hfull
          clear hfull
          go_wp2_with (first | (refine wpList_lookup_run rfl 57 _ _ true rfl _ _ _ rfl rfl HLK.out ?_))
          refine HAD.out.mono ?_
          rintro e w3 ⟨lv', rfl, ho, hc, hf, hat, hk, hcs⟩
          have hc2' := hcs 2 _ (by omega) HM.out.c2
          obtain ⟨w4, hup, hms, hg4⟩ := run_update_of codedS Tryd.underlying57 (w := w3) (b := ml) (l := S) (vv := vvI) (MapRaw.kept HM.out.mS (hk.block ml (MapRaw.lt HM.out.mS) (fun e => by
            rcases e with e | e
            · exact HM.out.ne.2.1 e.symm
            · exact HM.out.ne.2.2.2.2.2 e))) HM.out.nS s (L.length : Int)
          rw [HSV.out] at hup
          have HUP := Lib.hid (show (Instr.mapUpdate 57 (.map (some ml)) (.string sv) (.int .i64 L.length)).run Tryd.prog w3 = .ok () w4 from hup)
          have HTO := Lib.hid (show StTo F w w4 p (L ++ [⟨-1, 0, 0, 0, r⟩]) (fun b => F b ∨ (w.heap.size ≤ b ∧ b < w4.heap.size)) from by
            refine HM0.out.added (x := ⟨-1, 0, 0, 0, r⟩) (xv := .slice pu lu cu) (T' := T) (S' := store s (L.length : Int) S) HX2.out HU2.out ho hc hf hat hk hcs ((Keep.grown hg4).mono fun b _ hb => .inr hb) ?_ HM.out.nT hms (store_keys HM.out.nS) (fun k id => ?_) (fun y id => ?_) ?_
            · have h1 : w3.heap[mt]? = w2.heap[mt]? := hk.block mt (MapRaw.lt HM.out.mT) (fun e => by
                rcases e with e | e
                · exact HM.out.ne.1 e.symm
                · exact HM.out.ne.2.2.2.2.1 e)
              have h3 := MapRaw.kept HM.out.mT h1
              exact MapRaw.kept h3 (hg4.block mt (MapRaw.lt h3) (fun e => HM.out.ne.2.2.1 (by injection e)))
            · rw [HM.out.lT k id]
              constructor
              · rintro ⟨i, e1, e2, e3⟩
                exact ⟨i, e1, getElem?_snoc.2 (.inl e2), e3⟩
              · rintro ⟨i, e1, e2, e3⟩
                rcases getElem?_snoc.1 e2 with e2 | ⟨-, e2⟩
                · exact ⟨i, e1, e2, e3⟩
                · injection e2 with e4
                  omega
            · by_cases hy : y = s
              · subst hy
                rw [look_store]
                constructor
                · intro e
                  injection e with e
                  exact ⟨L.length, r, e.symm, getElem?_snoc.2 (.inr ⟨rfl, rfl⟩), HSK.out⟩
                · rintro ⟨i, r', rfl, e2, e3⟩
                  rcases getElem?_snoc.1 e2 with e2 | ⟨rfl, -⟩
                  · have := (HM.out.lS y i).2 ⟨i, r', rfl, e2, e3⟩
                    rw [HLS.out] at this; cases this
                  · rfl
              · rw [look_other _ hy, HM.out.lS y id]
                constructor
                · rintro ⟨i, r', e1, e2, e3⟩
                  exact ⟨i, r', e1, getElem?_snoc.2 (.inl e2), e3⟩
                · rintro ⟨i, r', e1, e2, e3⟩
                  rcases getElem?_snoc.1 e2 with e2 | ⟨-, e2⟩
                  · exact ⟨i, r', e1, e2, e3⟩
                  · injection e2 with _ _ _ _ e4
                    exact absurd (Subtype.ext (by rw [e3, ← e4, HSK.out])) hy
            · refine InvL.snoc HM.out.inv HNO.out (by have := HFU.out; omega) ⟨⟨by show (-128 : Int) ≤ -1 ∧ (-1 : Int) ≤ 127; omega, by show (0 : Int) ≤ 0 ∧ (0 : Int) ≤ 18446744073709551615; omega, by show (-9223372036854775808 : Int) ≤ 0 ∧ (0 : Int) ≤ 9223372036854775807; omega, by show (-9223372036854775808 : Int) ≤ 0 ∧ (0 : Int) ≤ 9223372036854775807; omega⟩, .inl ⟨l, rfl, HRS.out, ?_⟩⟩
              show r.length ≤ 64
              have := HLU.out
              omega)
          have hbn : L.length ≤ 65536 := HM.out.inv.2.1
          have HF := Lib.hid (show OpPost F w p R (.returned (.tuple #[.int .i64 L.length, .int .i64 0])) w4 from by
            rw [HLE5.out]; exact ⟨rfl, _, HTO.out⟩)
          generalize L.length = n at *
          clear ho hc hf hat hk hcs hup hms hg4 c2
          go_wp2_with (first | (refine wpList_update_run rfl 57 _ _ _ (.inl rfl) _ _ _ _ rfl rfl rfl HUP.out ?_))
          go_ret2
          exact HF.out
end Go.Proofs.YtehdddilcakmlaaDoor

/- NodesRows walked. -/
import Derived.Test.YtehdddilcakmlaaDoorNRowsP
import Derived.Test.YtehdddilcakmlaaDoorNAct
import Derived.Test.YtehdddilcakmlaaDoorNLOnce
namespace Go.Proofs.YtehdddilcakmlaaDoor
open Go.RowKit Go.Sort Go.Maps Go.Lib
set_option linter.unusedSimpArgs false

theorem RowOn.of_owns {B : Nat → Prop} {w : World} {base : Nat} {r : RowD} {v : Value} {n : Nat} (h : w.ownsRow base 54 3 v n (flatA r)) (hn : n = r.length) (hok : ∀ x ∈ r, x.ok) (hB : ∀ b, v.ownBlock = some b → B b) : RowOn B w r v := by
  obtain ⟨p, c, rfl, hc, hm⟩ := owns_form h
  refine ⟨p, n, c, rfl, hn, hc, hm, hok, ?_⟩
  rcases owns_range h with ⟨h0, -⟩ | ⟨g, c', he, hb, hlt, hr⟩
  · exact .inl (List.length_eq_zero_iff.1 (hn ▸ h0))
  · cases he
    exact .inr ⟨g, 0, rfl, hB g rfl, hlt, hr⟩
theorem back_step {r : RowD} {M : Nat} (h : M < r.length) : flatA (r.drop (M + 1)).reverse ++ (r[M]).cs = flatA (r.drop M).reverse := by
  rw [List.drop_eq_getElem_cons h, List.reverse_cons, flatA_app]
  simp [flatA]
theorem row_ok {B : Nat → Prop} {w : World} {r : RowD} {v : Value} (h : RowOn B w r v) : ∀ x ∈ r, x.ok := by
  obtain ⟨p, n, c, -, -, -, -, hok, -⟩ := h
  exact hok
theorem acts_one {w wA : World} {l : List RowD} {v : Value} (hx : Ext w wA) (h : RowsOn AnyB w l v) (hB : RowsB l) (hA : w.alloc (.cells #[.int .i64 0, v, .int .i8 0, .int .u64 0, .int .i64 0, .int .i64 0] 35) = wA) : ActsOn wA [⟨0, l, 0, 0, 0, 0⟩] (.slice (some ⟨w.heap.size, 0, none⟩) 1 1) := by
  refine ⟨_, 1, 1, rfl, rfl, Nat.le_refl _, by omega, by unfold maxB; omega, .inr ⟨w.heap.size, 0, rfl, by rw [← hA, World.size_alloc]; omega, fun i hi => ?_⟩⟩
  obtain rfl : i = 0 := by simp at hi; exact hi
  refine ⟨v, ?_, h.ext hx, (by show (-9223372036854775808 : Int) ≤ 0 ∧ (0 : Int) ≤ 9223372036854775807; omega), (by show (-128 : Int) ≤ 0 ∧ (0 : Int) ≤ 127; omega), (by show (0 : Int) ≤ 0 ∧ (0 : Int) ≤ 18446744073709551615; omega), (by show (-9223372036854775808 : Int) ≤ 0 ∧ (0 : Int) ≤ 9223372036854775807; omega), (by show (-9223372036854775808 : Int) ≤ 0 ∧ (0 : Int) ≤ 9223372036854775807; omega), hB⟩
  rw [← hA]
  intro j u hu
  have := List.getElem?_eq_some_iff.1 hu
  obtain ⟨hj, hv⟩ := this
  have hj6 : j < 6 := hj
  match j, hj6 with
  | 0, _ => cases hu; simp [go_sem]
  | 1, _ => cases hu; simp [go_sem]
  | 2, _ => cases hu; simp [go_sem]
  | 3, _ => cases hu; simp [go_sem]
  | 4, _ => cases hu; simp [go_sem]
  | 5, _ => cases hu; simp [go_sem]

set_option maxHeartbeats 16000000 in
set_option maxRecDepth 100000 in
theorem lawRows_any (l : List RowD) (turn : Int) (v : Value) (w : World) (h : RowsOn AnyB w l v) (hB : RowsB l) (hturn : -9223372036854775808 ≤ turn ∧ turn ≤ 9223372036854775807) (ht : Tb w) :
    Calls Tryd.prog 7 #[v, .int .i64 turn] w fun e w' => e = .returned (.bool true) ∧ Ext w w' := by
  have HTB := Lib.hid ht
  have HRO := Lib.hid h
  have HTN := Lib.hid hturn
  obtain ⟨pv, n, cv, rfl, hn, hnc, hncm, -⟩ := h
  have HN := Lib.hid hn
  have HRA := Lib.hid (rowsAt HRO.out)
  obtain ⟨wA, hA⟩ : ∃ W : World, w.alloc (.cells #[.int .i64 0, .slice pv n cv, .int .i8 0, .int .u64 0, .int .i64 0, .int .i64 0] 35) = W := ⟨_, rfl⟩
  have xA : Ext w wA := hA ▸ Ext.alloc _ _
  have HGA := Lib.hid (great_any _ _ wA (acts_one xA HRO.out hB hA))
  have HXA := Lib.hid xA
  have HEQ := Lib.hid hA
  clear hn ht hturn hA xA
  go_enter Tryd.func7, Tryd.ntmps7
  go_wp2_with fail
  rw [HEQ.out]
  refine HGA.out.mono ?_
  rintro e w1 ⟨g, rfl, rfl, hg⟩
  clear HGA HEQ
  cases g with
  | true =>
    clear hg
    go_wp2_with fail
    refine (wakes20_any wA (HTB.out.ext HXA.out)).mono ?_
    rintro e w6 ⟨rfl, hx6⟩
    go_wp2_with fail
    go_ret
    exact ⟨rfl, HXA.out.trans hx6⟩
  | false =>
    have HSM := Lib.hid (show l.length ≤ 8192 ∧ ∀ r ∈ l, r.length ≤ 8192 from (hg rfl).2 _ List.mem_cons_self)
    have hn8 : n ≤ 8192 := by have := HSM.out.1; have := HN.out; omega
    clear hg
    go_wp2_with fail
    refine (newO wA).mono ?_
    rintro e w1 ⟨p, rfl, hd⟩
    have HLF := Lib.hid (leafO p [] l (.slice pv n cv) w1 hd (HRO.out.ext (HXA.out.trans hd.ex)) (by have := HSM.out.1; omega) (fun r hr => by have := HSM.out.2 r hr; omega) (HTB.out.ext (HXA.out.trans hd.ex)))
    clear hd
    go_wp2_with fail
    refine HLF.out.mono ?_
    obtain ⟨R, hR⟩ : ∃ R, R = leafP [] l := ⟨_, rfl⟩
    rw [← hR]
    have HR := Lib.hid hR
    rintro e w2 ⟨rfl, hd⟩
    have HD2 := Lib.hid hd
    have HX2 := Lib.hid (HXA.out.trans hd.ex)
    have HTW := Lib.hid (show leafP R.2 (othR l turn (2 * l.length)) = R from by
      rw [hR]; exact leafP_twice (othR_rows l turn (by have := HSM.out.1; omega) HTN.out))
    obtain ⟨a, ha⟩ : ∃ a, a = R.1.1 := ⟨_, rfl⟩
    obtain ⟨er, her⟩ : ∃ er, er = R.1.2 := ⟨_, rfl⟩
    rw [← ha, ← her]
    have HAE := Lib.hid (And.intro ha her)
    clear hd hR ha her HLF
    go_wp2_with fail
    go_loopw [8, 10] (fun ov i wr => ∃ (I : Nat) (vs : List Value), I ≤ 2 * n ∧ i = .int .i64 I ∧ Hid (OutSt w2.heap.size wr ov (othR l turn I) vs) ∧ Hid (Ext w2 wr)) (fun _ i _ => 2 * n - (intOf i).toNat)
    case atStart => exact ⟨0, [], Nat.zero_le _, rfl, ⟨World.ownsRow_nil _ _ _ _, RowsV.nil⟩, Ext.refl _⟩
    case round =>
      obtain ⟨wo, rfl⟩ : ∃ wo : World, wo = wr := ⟨_, rfl⟩
      obtain ⟨I, vs, hI, rfl, hst, hx⟩ := hrel
      by_cases h2 : I < 2 * n
      · have hn0 : 0 < n := by omega
        have hJ := (show (wrap64 ((wrap64 ((I : Int) + turn)).tmod n + n)).tmod n = ((idxR turn n I : Nat) : Int) from by
          rw [idxR_eq turn n I hn0]; exact (idx_wrap _ n hn0 (by omega)).1)
        obtain ⟨j, hj⟩ : ∃ j, j = idxR turn n I := ⟨_, rfl⟩
        rw [← hj] at hJ
        have hjn : j < n := by rw [hj]; exact idxR_lt turn n I hn0
        have hjl : j < l.length := by rw [← HN.out]; exact hjn
        obtain ⟨r, hr⟩ : ∃ r, r = l[j] := ⟨_, rfl⟩
        have HSN := Lib.hid (show othR l turn (I + 1) = othR l turn I ++ [r.reverse] from othR_snoc l turn I r (by rw [← HN.out, ← hj, hr]; exact List.getElem?_eq_getElem hjl))
        have hrl : r.length ≤ 8192 := by rw [hr]; exact HSM.out.2 _ (List.getElem_mem _)
        obtain ⟨b, o, u, rfl, hu, hrow⟩ := HRA.out wo (HX2.out.trans hx.out) j hjl
        rw [← hr] at hrow
        have HROW := Lib.hid hrow
        obtain ⟨pr, lr, cr, rfl, hlr, hlcr, hcmr, hokr, -⟩ := hrow
        have hlr2 : lr ≤ 8192 := by omega
        have HLR := Lib.hid hlr
        have HOKR := Lib.hid hokr
        have HAT := Lib.hid (rowAt HROW.out)
        clear hr hj hlr hokr hrl
        go_upto_region 11 with fail
        clear hJ
        clear hu
        go_wp2_with fail
        try rw [show decide ((I : Int) < 2 * (n : Int)) = true from decide_eq_true (by omega)]
        go_loopw [12, 13] (fun bv k wr => ∃ K : Nat, K ≤ lr ∧ k = .int .i64 ((K : Int) - 1) ∧ Hid (wr.ownsRow wo.heap.size 54 3 bv (lr - K) (flatA (r.drop K).reverse)) ∧ Hid (Ext wo wr)) (fun _ k _ => (intOf k + 1).toNat)
        case atStart => exact ⟨lr, Nat.le_refl _, rfl, by
          show World.ownsRow _ _ _ _ _ _ _
          rw [List.drop_of_length_le (by have := HLR.out; omega), Nat.sub_self]
          exact World.ownsRow_nil _ _ _ _, Ext.refl _⟩
        case round =>
          obtain ⟨wn, rfl⟩ : ∃ wn : World, wn = wr := ⟨_, rfl⟩
          obtain ⟨K, hK, rfl, hbk, hxn⟩ := hrel
          cases K with
          | succ M =>
            have hM : M < r.length := by have := HLR.out; omega
            obtain ⟨br, orr, rfl, c0, c1, c2⟩ := HAT.out wn hxn.out M hM
            obtain ⟨x, hxr⟩ : ∃ x, x = r[M] := ⟨_, rfl⟩
            have HBS := Lib.hid (show flatA (r.drop (M + 1)).reverse ++ x.cs = flatA (r.drop M).reverse from by rw [hxr]; exact back_step hM)
            rw [← hxr] at c0 c1 c2
            have HO := Lib.hid (owns_ext hbk.out (Ext.alloc wn (.cells #[.int .i8 x.d, .int .i8 x.f, .int .u64 x.n] 54)))
            have HXn := Lib.hid (hxn.out.andAlloc (.cells #[.int .i8 x.d, .int .i8 x.f, .int .u64 x.n] 54))
            have hsz := HXn.out.size
            rw [show (((M + 1 : Nat) : Int) - 1) = (M : Int) from by omega]
            clear hxr hbk
            go_wp2_with (at_builtin; refine wpList_append_E elemA rfl (.tmp 59) (.tmp 64) rfl wo.heap.size u12 (lr - (M + 1)) _ rfl HO.out (some ⟨wn.heap.size, 0, none⟩) 1 1 x.cs rfl rfl (.inr ⟨_, rfl, fun i u hu => by
              match i with
              | 0 => cases hu; simp [go_sem]
              | 1 => cases hu; simp [go_sem]
              | 2 => cases hu; simp [go_sem]
              | i + 3 => simp [AcD.cs] at hu⟩) x.one (by omega) (by omega) hsz ?_; intro v4 w4 o4 g4 t4)
            rw [HBS.out, show lr - (M + 1) + 1 = lr - M from by omega] at o4
            have HO4 := Lib.hid o4
            have HX4 := Lib.hid (HXn.out.grownV g4 (fun i hi => (owns_lt HO.out i hi).1))
            clear o4 g4 t4
            go_roundw
            case rel => exact ⟨M, by omega, by go_num, HO4.out, HX4.out⟩
            case measure => simp [intOf]
          | zero =>
            have HOB := Lib.hid (show wn.ownsRow wo.heap.size 54 3 u12 lr (flatA r.reverse) from by
              have h3 := hbk.out
              rwa [List.drop_zero, Nat.sub_zero] at h3)
            obtain ⟨pb, cb, rfl, -⟩ := owns_form HOB.out
            have hxa : Ext wn (wn.alloc (.cells #[.slice pb lr cb] 52)) := Ext.alloc _ _
            have HXq := Lib.hid (hx.out.trans (hxn.out.trans hxa))
            have HSTq := Lib.hid (hst.out.more (hxn.out.trans hxa))
            have HROWs := Lib.hid (RowOn.of_owns (B := fun b => w2.heap.size ≤ b ∧ u8.ownBlock ≠ some b) (owns_ext HOB.out hxa) (by rw [List.length_reverse]; exact HLR.out) (fun x hx => HOKR.out x (List.mem_reverse.1 hx)) (fun b hb => by
              have h1 := (owns_lt HOB.out b hb).1
              have h2 := hx.out.size
              refine ⟨by omega, fun e => ?_⟩
              have := (owns_lt hst.out.o b e).2
              omega))
            have hszq := HXq.out.size
            have hol := othR_len l turn I
            clear hbk hst hx hxn hxa
            rw [show (((0 : Nat) : Int) - 1) = -1 from by omega]
            go_wp2_with (at_builtin; refine wpList_append_E elemR rfl (.tmp 66) (.tmp 68) rfl w2.heap.size u8 (othR l turn I).length vs rfl HSTq.out.o (some ⟨wn.heap.size, 0, none⟩) 1 1 [.slice pb lr cb] rfl rfl (.inr ⟨_, rfl, fun i u hu => by
              cases i with
              | zero => simp at hu; subst hu; simp [go_sem]
              | succ i => simp at hu⟩) (by intro u hu; simp at hu; subst hu; rfl) (by rw [hol]; omega) (by rw [hol]; omega) hszq ?_; intro v' w' o1 g1 t1)
            go_roundw
            case rel => exact ⟨I + 1, vs ++ [.slice pb lr cb], by omega, by go_num, by rw [HSN.out]; exact HSTq.out.put HROWs.out o1 g1 t1, HXq.out.grownV g1 (fun i hi => (owns_lt HSTq.out.o i hi).1)⟩
            case measure => simp [intOf]; omega
      obtain rfl : I = 2 * n := by omega
      have HRW := Lib.hid (show RowsOn AnyB wo (othR l turn (2 * l.length)) u8 from by
        have h3 := hst.out
        rw [HN.out] at h3
        exact (RowsOn.of_owns (B := fun b => w2.heap.size ≤ b) h3.o (h3.v.mono fun b _ hb => hb.1) (fun b hb => (owns_lt h3.o b hb).1)).mono fun b _ _ => trivial)
      have HDO := Lib.hid (HD2.out.ext hx.out)
      have HLF := Lib.hid (leafO p R.2 _ u8 wo HDO.out HRW.out (by rw [othR_len]; have := HSM.out.1; omega) (othR_short l turn _ 10000 (fun r hr => by have := HSM.out.2 r hr; omega)) (HTB.out.ext (HX2.out.trans hx.out)))
      rw [HTW.out] at HLF
      obtain ⟨p8, c8, rfl, -⟩ := owns_form hst.out.o
      have HXo := Lib.hid (HX2.out.trans hx.out)
      clear hst hx HTW HRW
      go_wp2_with fail
      refine HLF.out.mono ?_
      rintro e w3 ⟨rfl, hd⟩
      have HX3 := Lib.hid (HXA.out.trans hd.ex)
      have HD3 := Lib.hid hd
      rw [← HAE.out.1, ← HAE.out.2]
      clear hd HLF HXo HDO
      rcases leafP_first l with ⟨cd, hc0, hc1, hRe⟩ | ⟨r, hrr, hRe⟩
      · rw [← HR.out] at hRe
        have hcc : cd = er := by rw [HAE.out.2, hRe]
        subst hcc
        rw [hRe] at HD3
        have HLN := Lib.hid (lenO p [] w3 HD3.out)
        have hcn : (cd != 0) = true := by rw [bne_iff_ne]; exact hc0
        clear hRe
        go_wp2_with fail
        refine HLN.out.mono ?_
        rintro e w4 ⟨rfl, rfl⟩
        go_wp2_with fail
        refine (wakes20_any w3 (HTB.out.ext HX3.out)).mono ?_
        rintro e w6 ⟨rfl, hx6⟩
        go_wp2_with fail
        go_ret
        exact ⟨rfl, HX3.out.trans hx6⟩
      · rw [← HR.out] at hRe
        have ha0 : a = 0 := by rw [HAE.out.1, hRe]
        have he0 : er = 0 := by rw [HAE.out.2, hRe]
        subst ha0 he0
        rw [hRe] at HD3
        obtain ⟨x, hxd⟩ : ∃ x : NdD, x = ⟨-1, 0, 0, 0, r⟩ := ⟨_, rfl⟩
        rw [← hxd] at HD3
        have HASC := Lib.hid (And.intro (rowsP_asc hrr) (rowsP_len hrr))
        have HGE := Lib.hid (getAt p [x] 0 x w3 HD3.out rfl)
        rw [hxd] at HGE
        have HLN := Lib.hid (fun W (hW : Ext w3 W) => lenO p [x] W (HD3.out.ext hW))
        clear hRe hrr hxd
        go_wp2_with fail
        refine HGE.out.mono ?_
        rintro e w4 ⟨q3, m, c3, rfl, hr3, hx4⟩
        obtain ⟨w5, h5⟩ : ∃ W : World, w4.alloc (.cells #[.int .i8 (-1), .int .u64 0, .int .i64 0, .int .i64 0, .slice q3 m c3] 41) = W := ⟨_, rfl⟩
        have x5 : Ext w4 w5 := h5 ▸ Ext.alloc _ _
        have HA5 := Lib.hid (show ∀ W : World, Ext w5 W → Cells5 W w4.heap.size (.int .i8 (-1)) (.int .u64 0) (.int .i64 0) (.int .i64 0) (.slice q3 m c3) from fun W hW => Cells5.ext (by rw [← h5]; exact cell5 _ _ _ _ _ _) hW)
        have HX5 := Lib.hid (HX3.out.trans (hx4.trans x5))
        have HL5 := Lib.hid (HLN.out w5 (hx4.trans x5))
        have HR5 := Lib.hid (rowsAt (hr3.ext x5))
        have hmr : m = r.length := by obtain ⟨_, _, _, he, hm, -⟩ := hr3; cases he; exact hm
        have HMR := Lib.hid hmr
        have hmn : m ≤ n := by have := HASC.out.2; have := HN.out; omega
        have HE5 := Lib.hid h5
        clear h5 hx4 x5 hr3 hmr HLN HGE
        go_upto_region 23 with fail
        rw [HE5.out]
        clear HE5
        obtain ⟨a0, a1, a2, a3, a4⟩ := HA5.out w5 (Ext.refl _)
        go_wp2_with fail
        refine HL5.out.mono ?_
        rintro e w6 ⟨rfl, rfl⟩
        go_wp2_with fail
        clear a0 a1 a2 a3 a4 HL5
        go_loopw [18] (fun i wr => ∃ I : Nat, I ≤ m ∧ i = .int .i64 I ∧ Hid (Ext w5 wr)) (fun i _ => m - (intOf i).toNat)
        case atStart => exact ⟨0, Nat.zero_le _, rfl, Ext.refl _⟩
        case round =>
          obtain ⟨wz, rfl⟩ : ∃ wz : World, wz = wr := ⟨_, rfl⟩
          obtain ⟨I, hI, rfl, hxz⟩ := hrel
          obtain ⟨a0, a1, a2, a3, a4⟩ := HA5.out wz hxz.out
          by_cases hIm : I < m
          case neg =>
            go_wp2_with fail
            refine (wakes20_any wz (HTB.out.ext (HX5.out.trans hxz.out))).mono ?_
            rintro e w7 ⟨rfl, hx7⟩
            go_wp2_with fail
            go_ret
            exact ⟨rfl, HX5.out.trans (hxz.out.trans hx7)⟩
          have hIr : I < r.length := by rw [← HMR.out]; exact hIm
          obtain ⟨b3, o3, u, rfl, hu, hrow⟩ := HR5.out wz hxz.out I hIr
          obtain ⟨ro, hro⟩ : ∃ ro, ro = r[I] := ⟨_, rfl⟩
          have HAS := Lib.hid (show ro.Pairwise fun a b => a.f < b.f from by rw [hro]; exact HASC.out.1 _ (List.getElem_mem _))
          rw [← hro] at hrow
          have HROW := Lib.hid hrow
          obtain ⟨pr, lr, cr, rfl, hlr, hlcr, hcmr, -, -⟩ := hrow
          have HLR := Lib.hid hlr
          have HAT := Lib.hid (rowAt HROW.out)
          have HU := Lib.hid (fun W (hW : Ext wz W) => hW.later _ _ hu)
          clear hro hlr a0 a1 a2 a3 hu
          go_wp2_with fail
          clear a4
          go_loopw [19] (fun k wr => ∃ M : Nat, (M + 1 ≤ lr ∨ M = 0) ∧ k = .int .i64 (M + 1 : Nat) ∧ Hid (Ext wz wr)) (fun k _ => lr + 1 - (intOf k).toNat)
          case atStart => exact ⟨0, .inr rfl, rfl, Ext.refl _⟩
          case round =>
            obtain ⟨wy, rfl⟩ : ∃ wy : World, wy = wr := ⟨_, rfl⟩
            obtain ⟨M, hM, rfl, hxy⟩ := hrel
            obtain ⟨a0, a1, a2, a3, a4⟩ := HA5.out wy (hxz.out.trans hxy.out)
            have hu := HU.out wy hxy.out
            by_cases hMl : M + 1 < lr
            case neg =>
              go_wp2_with fail
              go_roundw
              case rel => exact ⟨I + 1, by omega, by go_num, hxz.out.trans hxy.out⟩
              case measure => simp [intOf]; omega
            have hMr : M + 1 < ro.length := by rw [← HLR.out]; exact hMl
            obtain ⟨br, orr, rfl, -, ca, -⟩ := HAT.out wy hxy.out (M + 1) hMr
            obtain ⟨br', or', he, -, cb, -⟩ := HAT.out wy hxy.out M (by omega)
            cases he
            obtain ⟨fa, hfa⟩ : ∃ fa, fa = (ro[M + 1]).f := ⟨_, rfl⟩
            obtain ⟨fb, hfb⟩ : ∃ fb, fb = (ro[M]'(by omega)).f := ⟨_, rfl⟩
            have hlt : fb < fa := by
              rw [hfa, hfb]
              exact List.pairwise_iff_getElem.1 HAS.out M (M + 1) (by omega) hMr (by omega)
            rw [← hfa] at ca
            rw [← hfb] at cb
            clear a0 a1 a2 a3
            have hxd := Ext.drew wy
            have HSX := Lib.hid (show ∀ W : World, Ext wy W → (fun W : World => W.cell? ⟨w4.heap.size, 4, none⟩ = some (.slice (some ⟨b3, o3, none⟩) m c3) ∧ W.cell? ⟨b3, o3 + I, none⟩ = some (.slice (some ⟨br, orr, none⟩) lr cr) ∧ W.cell? ⟨br, orr + (M + 1) * 3 + 1, none⟩ = some (.int .i8 fa) ∧ W.cell? ⟨br, orr + M * 3 + 1, none⟩ = some (.int .i8 fb)) W from fun W hW => ⟨hW.later _ _ a4, hW.later _ _ hu, hW.later _ _ ca, hW.later _ _ cb⟩)
            have hadd : ((M : Int) + 1 - 1) = M := by omega
            have hM1 : M + 1 < lr := hMl
            clear hfa hfb
            go_upto_region 31 with fail
            clear a4 hu ca cb
            refine wp_region_noPanic ?_
            refine wp_region_held_drew (S := (fun W => W.cell? ⟨w4.heap.size, 4, none⟩ = some (.slice (some ⟨b3, o3, none⟩) m c3) ∧ W.cell? ⟨b3, o3 + I, none⟩ = some (.slice (some ⟨br, orr, none⟩) lr cr) ∧ W.cell? ⟨br, orr + (M + 1) * 3 + 1, none⟩ = some (.int .i8 fa) ∧ W.cell? ⟨br, orr + M * 3 + 1, none⟩ = some (.int .i8 fb))) (by kernel_rfl) (HSX.out _ hxd) (fun hHeld => ?_)
            refine wpAnyH_take (i := 0) (v := .pointer (some ⟨w4.heap.size, 4, none⟩)) rfl (by kernel_rfl) (by kernel_rfl) (by kernel_rfl) (fun _ _ _ h => h) (Or.inl ⟨by rfl, by (intro w hSw; (try dsimp only at hSw); go_simp; try (first | omega | (rw [IntKind.wrap_i64]; omega)))⟩) (by assumption) ?_
            try simp only [List.getElem_toArray, List.getElem_cons_zero, List.getElem_cons_succ, Act.put, List.setIfInBounds_toArray, List.set_cons_zero, List.set_cons_succ, Array.toArray_toList]
            refine wpAnyH_take (i := 1) (v := .slice (some ⟨b3, o3, none⟩) m c3) rfl (by kernel_rfl) (by kernel_rfl) (by kernel_rfl) (fun _ _ _ h => h) (Or.inl ⟨by rfl, by (intro w hSw; (try dsimp only at hSw); go_simp; try (first | omega | (rw [IntKind.wrap_i64]; omega)))⟩) (by assumption) ?_
            try simp only [List.getElem_toArray, List.getElem_cons_zero, List.getElem_cons_succ, Act.put, List.setIfInBounds_toArray, List.set_cons_zero, List.set_cons_succ, Array.toArray_toList]
            refine wpAnyH_take (i := 2) (v := .int .i64 I) rfl (by kernel_rfl) (by kernel_rfl) (by kernel_rfl) (fun _ _ _ h => h) (Or.inl ⟨by rfl, by (intro w hSw; (try dsimp only at hSw); go_simp; try (first | omega | (rw [IntKind.wrap_i64]; omega)))⟩) (by assumption) ?_
            try simp only [List.getElem_toArray, List.getElem_cons_zero, List.getElem_cons_succ, Act.put, List.setIfInBounds_toArray, List.set_cons_zero, List.set_cons_succ, Array.toArray_toList]
            refine wpAnyH_take (i := 3) (v := .pointer (some ⟨b3, o3 + I, none⟩)) rfl (by kernel_rfl) (by kernel_rfl) (by kernel_rfl) (fun _ _ _ h => h) (Or.inl ⟨by rfl, by (intro w hSw; (try dsimp only at hSw); go_simp; try (first | omega | (rw [IntKind.wrap_i64]; omega)))⟩) (by assumption) ?_
            try simp only [List.getElem_toArray, List.getElem_cons_zero, List.getElem_cons_succ, Act.put, List.setIfInBounds_toArray, List.set_cons_zero, List.set_cons_succ, Array.toArray_toList]
            refine wpAnyH_take (i := 4) (v := .slice (some ⟨br, orr, none⟩) lr cr) rfl (by kernel_rfl) (by kernel_rfl) (by kernel_rfl) (fun _ _ _ h => h) (Or.inl ⟨by rfl, by (intro w hSw; (try dsimp only at hSw); go_simp; try (first | omega | (rw [IntKind.wrap_i64]; omega)))⟩) (by assumption) ?_
            try simp only [List.getElem_toArray, List.getElem_cons_zero, List.getElem_cons_succ, Act.put, List.setIfInBounds_toArray, List.set_cons_zero, List.set_cons_succ, Array.toArray_toList]
            refine wpAnyH_take (i := 5) (v := .int .i64 (M + 1 : Nat)) rfl (by kernel_rfl) (by kernel_rfl) (by kernel_rfl) (fun _ _ _ h => h) (Or.inl ⟨by rfl, by (intro w hSw; (try dsimp only at hSw); go_simp; try (first | omega | (rw [IntKind.wrap_i64]; omega)))⟩) (by assumption) ?_
            try simp only [List.getElem_toArray, List.getElem_cons_zero, List.getElem_cons_succ, Act.put, List.setIfInBounds_toArray, List.set_cons_zero, List.set_cons_succ, Array.toArray_toList]
            refine wpAnyH_take (i := 6) (v := .pointer (some ⟨br, orr + (M + 1) * 3, none⟩)) rfl (by kernel_rfl) (by kernel_rfl) (by kernel_rfl) (fun _ _ _ h => h) (Or.inl ⟨by rfl, by (intro w hSw; (try dsimp only at hSw); go_simp; try (first | omega | (rw [IntKind.wrap_i64]; omega)))⟩) (by assumption) ?_
            try simp only [List.getElem_toArray, List.getElem_cons_zero, List.getElem_cons_succ, Act.put, List.setIfInBounds_toArray, List.set_cons_zero, List.set_cons_succ, Array.toArray_toList]
            refine wpAnyH_take (i := 7) (v := .pointer (some ⟨br, orr + (M + 1) * 3 + 1, none⟩)) rfl (by kernel_rfl) (by kernel_rfl) (by kernel_rfl) (fun _ _ _ h => h) (Or.inl ⟨by rfl, by (intro w hSw; (try dsimp only at hSw); go_simp; try (first | omega | (rw [IntKind.wrap_i64]; omega)))⟩) (by assumption) ?_
            try simp only [List.getElem_toArray, List.getElem_cons_zero, List.getElem_cons_succ, Act.put, List.setIfInBounds_toArray, List.set_cons_zero, List.set_cons_succ, Array.toArray_toList]
            refine wpAnyH_take (i := 8) (v := .int .i8 fa) rfl (by kernel_rfl) (by kernel_rfl) (by kernel_rfl) (fun _ _ _ h => h) (Or.inl ⟨by rfl, by (intro w hSw; (try dsimp only at hSw); go_simp; try (first | omega | (rw [IntKind.wrap_i64]; omega)))⟩) (by assumption) ?_
            try simp only [List.getElem_toArray, List.getElem_cons_zero, List.getElem_cons_succ, Act.put, List.setIfInBounds_toArray, List.set_cons_zero, List.set_cons_succ, Array.toArray_toList]
            refine wpAnyH_take (i := 9) (v := .pointer (some ⟨w4.heap.size, 4, none⟩)) rfl (by kernel_rfl) (by kernel_rfl) (by kernel_rfl) (fun _ _ _ h => h) (Or.inl ⟨by rfl, by (intro w hSw; (try dsimp only at hSw); go_simp; try (first | omega | (rw [IntKind.wrap_i64]; omega)))⟩) (by assumption) ?_
            try simp only [List.getElem_toArray, List.getElem_cons_zero, List.getElem_cons_succ, Act.put, List.setIfInBounds_toArray, List.set_cons_zero, List.set_cons_succ, Array.toArray_toList]
            refine wpAnyH_take (i := 10) (v := .slice (some ⟨b3, o3, none⟩) m c3) rfl (by kernel_rfl) (by kernel_rfl) (by kernel_rfl) (fun _ _ _ h => h) (Or.inl ⟨by rfl, by (intro w hSw; (try dsimp only at hSw); go_simp; try (first | omega | (rw [IntKind.wrap_i64]; omega)))⟩) (by assumption) ?_
            try simp only [List.getElem_toArray, List.getElem_cons_zero, List.getElem_cons_succ, Act.put, List.setIfInBounds_toArray, List.set_cons_zero, List.set_cons_succ, Array.toArray_toList]
            refine wpAnyH_take (i := 11) (v := .int .i64 I) rfl (by kernel_rfl) (by kernel_rfl) (by kernel_rfl) (fun _ _ _ h => h) (Or.inl ⟨by rfl, by (intro w hSw; (try dsimp only at hSw); go_simp; try (first | omega | (rw [IntKind.wrap_i64]; omega)))⟩) (by assumption) ?_
            try simp only [List.getElem_toArray, List.getElem_cons_zero, List.getElem_cons_succ, Act.put, List.setIfInBounds_toArray, List.set_cons_zero, List.set_cons_succ, Array.toArray_toList]
            refine wpAnyH_take (i := 12) (v := .pointer (some ⟨b3, o3 + I, none⟩)) rfl (by kernel_rfl) (by kernel_rfl) (by kernel_rfl) (fun _ _ _ h => h) (Or.inl ⟨by rfl, by (intro w hSw; (try dsimp only at hSw); go_simp; try (first | omega | (rw [IntKind.wrap_i64]; omega)))⟩) (by assumption) ?_
            try simp only [List.getElem_toArray, List.getElem_cons_zero, List.getElem_cons_succ, Act.put, List.setIfInBounds_toArray, List.set_cons_zero, List.set_cons_succ, Array.toArray_toList]
            refine wpAnyH_take (i := 13) (v := .slice (some ⟨br, orr, none⟩) lr cr) rfl (by kernel_rfl) (by kernel_rfl) (by kernel_rfl) (fun _ _ _ h => h) (Or.inl ⟨by rfl, by (intro w hSw; (try dsimp only at hSw); go_simp; try (first | omega | (rw [IntKind.wrap_i64]; omega)))⟩) (by assumption) ?_
            try simp only [List.getElem_toArray, List.getElem_cons_zero, List.getElem_cons_succ, Act.put, List.setIfInBounds_toArray, List.set_cons_zero, List.set_cons_succ, Array.toArray_toList]
            refine wpAnyH_take (i := 14) (v := .int .i64 (M + 1 : Nat)) rfl (by kernel_rfl) (by kernel_rfl) (by kernel_rfl) (fun _ _ _ h => h) (Or.inl ⟨by rfl, by (intro w hSw; (try dsimp only at hSw); go_simp; try (first | omega | (rw [IntKind.wrap_i64]; omega)))⟩) (by assumption) ?_
            try simp only [List.getElem_toArray, List.getElem_cons_zero, List.getElem_cons_succ, Act.put, List.setIfInBounds_toArray, List.set_cons_zero, List.set_cons_succ, Array.toArray_toList]
            refine wpAnyH_take (i := 15) (v := .int .i64 M) rfl (by kernel_rfl) (by kernel_rfl) (by kernel_rfl) (fun _ _ _ h => h) (Or.inl ⟨by rfl, by (intro w hSw; (try dsimp only at hSw); go_simp; try (first | omega | (rw [IntKind.wrap_i64]; omega)))⟩) (by assumption) ?_
            try simp only [List.getElem_toArray, List.getElem_cons_zero, List.getElem_cons_succ, Act.put, List.setIfInBounds_toArray, List.set_cons_zero, List.set_cons_succ, Array.toArray_toList]
            refine wpAnyH_take (i := 16) (v := .pointer (some ⟨br, orr + M * 3, none⟩)) rfl (by kernel_rfl) (by kernel_rfl) (by kernel_rfl) (fun _ _ _ h => h) (Or.inl ⟨by rfl, by (intro w hSw; (try dsimp only at hSw); go_simp; try (first | omega | (rw [IntKind.wrap_i64]; omega)))⟩) (by assumption) ?_
            try simp only [List.getElem_toArray, List.getElem_cons_zero, List.getElem_cons_succ, Act.put, List.setIfInBounds_toArray, List.set_cons_zero, List.set_cons_succ, Array.toArray_toList]
            refine wpAnyH_take (i := 17) (v := .pointer (some ⟨br, orr + M * 3 + 1, none⟩)) rfl (by kernel_rfl) (by kernel_rfl) (by kernel_rfl) (fun _ _ _ h => h) (Or.inl ⟨by rfl, by (intro w hSw; (try dsimp only at hSw); go_simp; try (first | omega | (rw [IntKind.wrap_i64]; omega)))⟩) (by assumption) ?_
            try simp only [List.getElem_toArray, List.getElem_cons_zero, List.getElem_cons_succ, Act.put, List.setIfInBounds_toArray, List.set_cons_zero, List.set_cons_succ, Array.toArray_toList]
            refine wpAnyH_take (i := 18) (v := .int .i8 fb) rfl (by kernel_rfl) (by kernel_rfl) (by kernel_rfl) (fun _ _ _ h => h) (Or.inl ⟨by rfl, by (intro w hSw; (try dsimp only at hSw); go_simp; try (first | omega | (rw [IntKind.wrap_i64]; omega)))⟩) (by assumption) ?_
            try simp only [List.getElem_toArray, List.getElem_cons_zero, List.getElem_cons_succ, Act.put, List.setIfInBounds_toArray, List.set_cons_zero, List.set_cons_succ, Array.toArray_toList]
            refine wpAnyH_take (i := 19) (v := .bool (decide (fa ≤ fb))) rfl (by kernel_rfl) (by kernel_rfl) (by kernel_rfl) (fun _ _ _ h => h) (Or.inl ⟨by rfl, by (intro w hSw; (try dsimp only at hSw); go_simp; try (first | omega | (rw [IntKind.wrap_i64]; omega)))⟩) (by assumption) ?_
            try simp only [List.getElem_toArray, List.getElem_cons_zero, List.getElem_cons_succ, Act.put, List.setIfInBounds_toArray, List.set_cons_zero, List.set_cons_succ, Array.toArray_toList]
            refine wpAnyH_done (by kernel_rfl) ?_ _
            refine NoPanic.normal ?_
            clear hHeld
            rw [show decide (fa ≤ fb) = false from decide_eq_false (by omega)]
            go_wp2_with fail
            go_roundw
            case rel => exact ⟨M + 1, .inl (by omega), by go_num, hxy.out.trans hxd⟩
            case measure => simp [intOf]; omega
end Go.Proofs.YtehdddilcakmlaaDoor

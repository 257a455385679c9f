/- The law's own small functions: rows, big, runs, after. -/
import Derived.Test.YtdijlnibmeapbaaGreatDoorMR
import Derived.Test.YtdijlnibmeapbaaGreatDoorMP
import Derived.Test.YtdijlnibmeapbaaGreatDoorMQ
namespace Go.Proofs.YtdijlnibmeapbaaGreatDoor
open Go.RowKit Go.Sort Go.Maps Go.Lib
set_option linter.unusedSimpArgs false

theorem rowsN_app (a b : List PartD) : rowsN (a ++ b) = rowsN a + rowsN b := by
  induction a with
  | nil => simp [rowsN]
  | cons x a ih => simp only [List.cons_append, rowsN, ih]; omega
theorem rowsN_le (l : List PartD) : rowsN l ≤ l.length * 100 := by
  induction l with
  | nil => simp [rowsN]
  | cons x a ih => simp only [rowsN, List.length_cons]; omega
set_option maxHeartbeats 4000000 in
set_option maxRecDepth 100000 in
theorem lrows_any {B : Nat → Prop} (l : List PartD) (v : Value) (w : World) (hv : PartsAt B w l v) :
    Calls Tryz.prog 18 #[v] w fun e w' => e = .returned (.int .i64 (rowsN (l.take 5))) ∧ w = w' := by
  obtain ⟨p, n, c, rfl, hn, hnc, hcm, hat⟩ := hv
  have HN := Lib.hid hn
  have HAT := Lib.hid hat
  obtain ⟨K, hK⟩ : ∃ K, K = rowsN (l.take 5) := ⟨_, rfl⟩
  have HK := Lib.hid hK
  rw [← hK]
  clear hn hat hK
  go_enter Tryz.func18, Tryz.ntmps18
  go_wp2_with fail
  go_loopw [3, 4] (fun a i wr => ∃ (I s : Nat), I ≤ 5 ∧ I ≤ n ∧ i = .int .i64 I ∧ a = .int .i64 s ∧ s ≤ 500 ∧ Hid (s = rowsN (l.take I)) ∧ w = wr) (fun _ i _ => 5 - (intOf i).toNat)
  case atStart => exact ⟨0, 0, by omega, by omega, rfl, rfl, by omega, by show 0 = rowsN (l.take 0); rw [List.take_zero]; rfl, rfl⟩
  case round =>
    obtain ⟨I, s, h5, hIn, rfl, rfl, hs5, hs, rfl⟩ := hrel
    by_cases h1 : I < n
    · by_cases h2 : I < 5
      · have hIl : I < l.length := by rw [← HN.out]; exact h1
        obtain ⟨hok, b, o, q, k, e, rfl, -, -, c0, c1, c2, -⟩ := HAT.out I hIl
        have HS := Lib.hid (show rowsN (l.take (I + 1)) = s + min k 100 from by
          rw [List.take_succ_eq_append_getElem hIl, rowsN_app, ← hs.out]
          have hk : k = (l[I]).sets.length := by
            obtain ⟨hok2, b2, o2, q2, k2, e2, he, -, -, -, -, d2, hr⟩ := HAT.out I hIl
            cases he
            rw [c2] at d2
            cases d2
            obtain ⟨_, _, _, he2, hl2, -⟩ := hr
            cases he2
            exact hl2
          simp [rowsN, hk])
        have hle := rowsN_le (l.take (I + 1))
        rw [List.length_take, HS.out] at hle
        have hs2 : s + min k 100 ≤ 500 := by omega
        obtain ⟨mk, hmk⟩ : ∃ mk, mk = min k 100 := ⟨_, rfl⟩
        rw [← hmk] at hs2 HS
        clear c0 c1 hle hok hs
        by_cases hk100 : (k : Int) ≤ 100
        · have hmk2 : mk = k := by omega
          subst hmk2
          clear hmk
          go_wp2_with fail
          go_roundw
          case rel => exact ⟨I + 1, s + mk, by omega, by omega, by go_num, by go_num, by omega, HS.out.symm, trivial⟩
          case measure => simp [intOf]; omega
        · have hmk2 : mk = 100 := by omega
          subst hmk2
          clear hmk
          go_wp2_with fail
          go_roundw
          case rel => exact ⟨I + 1, s + 100, by omega, by omega, by go_num, by go_num, by omega, HS.out.symm, trivial⟩
          case measure => simp [intOf]; omega
      · have HF := Lib.hid (show K = s from by rw [HK.out, hs.out, show I = 5 from by omega])
        clear hs
        go_wp2_with fail
        go_ret
        exact ⟨by rw [HF.out]; rfl, rfl⟩
    · have HF := Lib.hid (show K = s from by
        rw [HK.out, hs.out]
        have e : l.take I = l := List.take_of_length_le (by have := HN.out; omega)
        have e2 : l.take 5 = l := List.take_of_length_le (by have := HN.out; omega)
        rw [e, e2])
      clear hs
      go_wp2_with fail
      go_ret
      exact ⟨by rw [HF.out]; rfl, rfl⟩

set_option maxHeartbeats 4000000 in
theorem lbig_any {B : Nat → Prop} (e0 : Int) (l : List PartD) (v : Value) (w : World) (hv : PartsAt B w l v) :
    Calls Tryz.prog 9 #[.int .i64 e0, v] w fun e w' => e = .returned (.bool (e0 == 200 && decide (64 < rowsN (l.take 5)))) ∧ w = w' := by
  have HR := Lib.hid (lrows_any l v w hv)
  obtain ⟨p, n, c, rfl, -⟩ := hv
  generalize rowsN (l.take 5) = K at *
  by_cases he : e0 = 200
  · subst he
    go_enter Tryz.func9, Tryz.ntmps9
    go_wp2_with fail
    refine HR.out.mono ?_
    rintro e w1 ⟨rfl, rfl⟩
    go_wp2_with fail
    go_ret
    refine ⟨?_, rfl⟩
    have hd : decide ((64 : Int) < (K : Int)) = decide (64 < K) := decide_eq_decide.2 (by omega)
    simp [hd]
  · have hb : (e0 == 200) = false := by rw [beq_eq_false_iff_ne]; exact he
    go_enter Tryz.func9, Tryz.ntmps9
    go_wp2_with fail
    go_ret
    exact ⟨by rw [hb]; rfl, rfl⟩

theorem runH_at {L : List NdD} {a : Nat} (ha : a < L.length) (h : Hdr) : runH L (a : Int) h = (0, runsN L a h) := by
  unfold runH runsN
  rw [if_pos (getP_in ha), Int.toNat_natCast]
def HListPost (l : List Hdr) (w : World) (e : Ending) (w' : World) : Prop := (∃ v, e = .returned v ∧ HSl w' w.heap.size l v) ∧ Ext w w'
set_option maxHeartbeats 4000000 in
theorem lruns_any {F : Nat → Prop} (p : Nat) (L : List NdD) (a : Nat) (h : Hdr) (w : World) (hs : St F w p L) (hG : Gd L) (ha : a < L.length) :
    Calls Tryz.prog 15 #[.pointer (some ⟨p, 0, none⟩), .int .i64 a, .agg h.cs] w (HListPost (runsN L a h) w) := by
  obtain ⟨w1, h1⟩ : ∃ W : World, w.alloc (.cells h.cs 25) = W := ⟨_, rfl⟩
  have x1 : Ext w w1 := h1 ▸ Ext.alloc _ _
  have HHR := Lib.hid (show w1.rangeAt w.heap.size 0 h.cs.toList from by rw [← h1]; exact rangeAt_new w h.cs 25)
  have HRN := Lib.hid (dRun_any p L (a : Int) h w1 (hs.ext x1) hG.o hG.f ⟨by omega, by have := hG.l.2.1; omega⟩)
  unfold RunPost at HRN
  rw [runH_at ha] at HRN
  have HX1 := Lib.hid x1
  have HE1 := Lib.hid h1
  clear x1 h1 hs
  go_enter Tryz.func15, Tryz.ntmps15
  go_upto_region 1 with fail
  rw [HE1.out]
  clear HE1
  go_wp2_with (first | (refine wpList_load_H rfl _ rfl w.heap.size 0 rfl h HHR.out ?_))
  refine HRN.out.mono ?_
  rintro e w2 ⟨⟨v, rfl, hv⟩, hx2⟩
  have HFIN := Lib.hid (show HListPost (runsN L a h) w (.returned v) w2 from ⟨⟨v, rfl, by
    obtain ⟨q, n, c, he, hn, hor⟩ := hv
    have := HX1.out.size
    exact ⟨q, n, c, he, hn, hor.imp id fun ⟨b, o, hp, hb, hr⟩ => ⟨b, o, hp, by omega, hr⟩⟩⟩, HX1.out.trans hx2⟩)
  clear hv hx2 HRN HHR
  dsimp only
  go_wp2_with fail
  go_ret
  exact HFIN.out

theorem len_go : ∀ {l m : List Hdr}, l.Nodup → (∀ y, y ∈ l → y ∈ m) → l.length ≤ m.length
  | [], m, _, _ => Nat.zero_le _
  | x :: l, m, hn, hs => by
    rw [List.nodup_cons] at hn
    have hx := hs x (by simp)
    have h2 : ∀ z, z ∈ l → z ∈ m.erase x := fun z hz => (List.mem_erase_of_ne (fun e => hn.1 (by rw [← e]; exact hz))).2 (hs z (by simp [hz]))
    have := len_go hn.2 h2
    rw [List.length_erase_of_mem hx] at this
    have h3 : 0 < m.length := List.length_pos_of_mem hx
    simp only [List.length_cons]
    omega
theorem len_le_sub {l m : List Hdr} (hl : l.Nodup) (hs : ∀ y, y ∈ l → y ∈ m) : l.length ≤ m.length := by
  exact len_go hl hs
end Go.Proofs.YtdijlnibmeapbaaGreatDoor
/- The law's after: what a diagram makes of many headers. -/
namespace Go.Proofs.YtdijlnibmeapbaaGreatDoor
open Go.RowKit Go.Sort Go.Maps Go.Lib
set_option linter.unusedSimpArgs false

theorem afterGo_mem {L : List NdD} {a I J : Nat} {l : List Hdr} (hI : I < l.length) : (((runsN L a l[I]).take J).foldl addH (afterP L a (l.take I))).length ≤ (afterP L a l).length := by
  obtain ⟨s1, s2⟩ := afterP_spec L a (l.take I)
  obtain ⟨a1, a2⟩ := addAll_spec s1 ((runsN L a l[I]).take J)
  refine len_le_sub a1.nodup fun y hy => ?_
  rw [(afterP_spec L a l).2]
  rcases (a2 y).1 hy with h | h
  · obtain ⟨z, hz, h1⟩ := (s2 y).1 h
    exact ⟨z, List.mem_of_mem_take hz, h1⟩
  · exact ⟨l[I], List.getElem_mem _, runsN_mem.1 (List.mem_of_mem_take h)⟩
theorem afterP_take {L : List NdD} {a I : Nat} {l : List Hdr} (hI : I < l.length) : afterP L a (l.take (I + 1)) = (runsN L a l[I]).foldl addH (afterP L a (l.take I)) := by
  unfold afterP
  rw [List.take_succ_eq_append_getElem hI, List.foldl_append]
  rfl

set_option maxHeartbeats 8000000 in
set_option maxRecDepth 100000 in
theorem lafter_any {F : Nat → Prop} {lo : Nat} (p : Nat) (L : List NdD) (a : Nat) (l : List Hdr) (v : Value) (w : World) (hs : St F w p L) (hG : Gd L) (ha : a < L.length) (hv : HSl w lo l v) (hl : l.length ≤ 900) (hK : (afterP L a l).length ≤ 900) :
    Calls Tryz.prog 12 #[.pointer (some ⟨p, 0, none⟩), .int .i64 a, v] w (HListPost (afterP L a l) w) := by
  have HS := Lib.hid hs
  have HG := Lib.hid hG
  have HA := Lib.hid ha
  have HKL := Lib.hid hK
  obtain ⟨q, n, c, rfl, hn, hor⟩ := hv
  have HN := Lib.hid hn
  have hn9 : n ≤ 900 := by omega
  have HLA := Lib.hid (show ∀ W, Ext w W → ∀ I (hI : I < l.length), ∃ b o, q = some ⟨b, o, none⟩ ∧ W.rangeAt b (o + I * 11) (l[I]).cs.toList from fun W hW I hI => by
    rcases hor with e | ⟨b, o, hp, -, hr⟩
    · rw [e] at hI; simp at hI
    · exact ⟨b, o, hp, rangeAt_get Hdr.len_cs (World.rangeAt.later hW.later hr) I hI⟩)
  clear hs hG ha hn hor hK hl
  go_enter Tryz.func12, Tryz.ntmps12
  go_wp2_with fail
  go_loopw [7, 14] (fun ov i wr => ∃ I : Nat, I ≤ n ∧ i = .int .i64 I ∧ Hid (HSl wr w.heap.size (afterP L a (l.take I)) ov) ∧ Hid (Ext w wr)) (fun _ i _ => n - (intOf i).toNat)
  case atStart => exact ⟨0, Nat.zero_le _, rfl, ⟨none, 0, 0, rfl, by rw [List.take_zero]; rfl, .inl (by rw [List.take_zero]; rfl)⟩, Ext.refl _⟩
  case round =>
    obtain ⟨wo, rfl⟩ : ∃ wo : World, wo = wr := ⟨_, rfl⟩
    obtain ⟨I, hI, rfl, hZ, hx⟩ := hrel
    by_cases h1 : I < n
    case neg =>
      have HF := Lib.hid (show HListPost (afterP L a l) w (.returned u7) wo from ⟨⟨u7, rfl, by
        have h3 := hZ.out
        rwa [List.take_of_length_le (by have := HN.out; omega)] at h3⟩, hx.out⟩)
      clear hZ hx
      go_wp2_with fail
      go_ret
      exact HF.out
    have hIl : I < l.length := by rw [← HN.out]; exact h1
    obtain ⟨b, o, rfl, hrI⟩ := HLA.out wo hx.out I hIl
    have HTK := Lib.hid (afterP_take (L := L) (a := a) hIl)
    have HLE := Lib.hid (fun J => afterGo_mem (L := L) (a := a) (J := J) hIl)
    obtain ⟨h, hh⟩ : ∃ h, h = l[I] := ⟨_, rfl⟩
    rw [← hh] at hrI HTK HLE
    have HRI := Lib.hid hrI
    obtain ⟨w1, hw1⟩ : ∃ W : World, wo.alloc (.cells h.cs 25) = W := ⟨_, rfl⟩
    have x1 : Ext wo w1 := hw1 ▸ Ext.alloc _ _
    have HR1 := Lib.hid (show w1.rangeAt wo.heap.size 0 h.cs.toList from by rw [← hw1]; exact rangeAt_new wo h.cs 25)
    have HE1 := Lib.hid hw1
    have HX1 := Lib.hid (hx.out.trans x1)
    have HRU := Lib.hid (lruns_any p L a h w1 (HS.out.ext HX1.out) HG.out HA.out)
    obtain ⟨m, hm⟩ : ∃ m, m = runsN L a h := ⟨_, rfl⟩
    have hm64 : m.length ≤ 64 := by rw [hm]; exact runsN_len HG.out HA.out
    rw [← hm] at HRU HTK HLE
    have HZ1 := Lib.hid (show HSl w1 w.heap.size (afterP L a (l.take I)) u7 from by
      obtain ⟨q2, n2, c2, he, hn2, hor⟩ := hZ.out
      exact ⟨q2, n2, c2, he, hn2, hor.imp id fun ⟨b, o, hp, hb, hr⟩ => ⟨b, o, hp, hb, World.rangeAt.later x1.later hr⟩⟩)
    clear hrI hw1 x1 hm hh hZ
    go_upto_region 5 with (first | (refine wpList_load_H rfl _ rfl b (o + I * 11) rfl h HRI.out ?_) | (refine wpList_store_new rfl 25 _ _ rfl _ h.cs rfl rfl (by rw [h.size_cs]; kernel_rfl) (by rw [h.size_cs]; rfl) (all_oneCell_toArray h.one) ?_))
    try simp only [Act.put]
    rw [HE1.out]
    clear HE1 HRI
    go_wp2_with (first | (refine wpList_load_H rfl _ rfl wo.heap.size 0 rfl h HR1.out ?_))
    refine HRU.out.mono ?_
    rintro e w2 ⟨⟨mv, rfl, q2, n2, c2, rfl, hn2, hor2⟩, hx2⟩
    have HN2 := Lib.hid hn2
    have hn264 : n2 ≤ 64 := by omega
    have HX2 := Lib.hid (HX1.out.trans hx2)
    have HMA := Lib.hid (show ∀ W, Ext w2 W → ∀ J (hJ : J < m.length), ∃ b o, q2 = some ⟨b, o, none⟩ ∧ W.rangeAt b (o + J * 11) (m[J]).cs.toList from fun W hW J hJ => by
      rcases hor2 with e | ⟨b, o, hp, -, hr⟩
      · rw [e] at hJ; simp at hJ
      · exact ⟨b, o, hp, rangeAt_get Hdr.len_cs (World.rangeAt.later hW.later hr) J hJ⟩)
    have HZ2 := Lib.hid (show HSl w2 w.heap.size (afterP L a (l.take I)) u7 from by
      obtain ⟨q2, n2, c2, he, hn2, hor⟩ := HZ1.out
      exact ⟨q2, n2, c2, he, hn2, hor.imp id fun ⟨b, o, hp, hb, hr⟩ => ⟨b, o, hp, hb, World.rangeAt.later hx2.later hr⟩⟩)
    obtain ⟨Z, hZe⟩ : ∃ Z, Z = afterP L a (l.take I) := ⟨_, rfl⟩
    rw [← hZe] at HZ2 HTK HLE
    have hxo := HX2.out
    clear hn2 hor2 hx2 HRU HZ1 hZe HR1
    go_wp2_with fail
    go_loopw [7, 23] (fun ov j wr => ∃ J : Nat, J ≤ n2 ∧ j = .int .i64 J ∧ Hid (HSl wr w.heap.size ((m.take J).foldl addH Z) ov) ∧ Hid (Ext w2 wr)) (fun _ j _ => n2 - (intOf j).toNat)
    case atStart => exact ⟨0, Nat.zero_le _, rfl, by show HSl w2 w.heap.size ((m.take 0).foldl addH Z) _; rw [List.take_zero]; exact HZ2.out, Ext.refl _⟩
    case round =>
      obtain ⟨wi, rfl⟩ : ∃ wi : World, wi = wr := ⟨_, rfl⟩
      obtain ⟨J, hJ, rfl, hY, hxi⟩ := hrel
      by_cases h2 : J < n2
      case neg =>
        have HN := Lib.hid (show HSl wi w.heap.size (afterP L a (l.take (I + 1))) u7 from by
          have h3 := hY.out
          rw [List.take_of_length_le (by have := HN2.out; omega)] at h3
          rw [HTK.out]
          exact h3)
        have HXF := Lib.hid (hxo.trans hxi.out)
        clear hY hxi
        go_wp2_with fail
        go_roundw
        case rel => exact ⟨I + 1, by omega, by go_num, HN.out, HXF.out⟩
        case measure => simp [intOf]; omega
      have hJl : J < m.length := by rw [← HN2.out]; exact h2
      obtain ⟨b3, o3, rfl, hrJ⟩ := HMA.out wi hxi.out J hJl
      have HTJ := Lib.hid (show (m.take (J + 1)).foldl addH Z = addH ((m.take J).foldl addH Z) m[J] from by rw [List.take_succ_eq_append_getElem hJl, List.foldl_append]; rfl)
      have hlen : ((m.take J).foldl addH Z).length ≤ 900 := Nat.le_trans (HLE.out J) HKL.out
      obtain ⟨k, hk⟩ : ∃ k, k = m[J] := ⟨_, rfl⟩
      rw [← hk] at hrJ HTJ
      have HRJ := Lib.hid hrJ
      obtain ⟨w4, hw4⟩ : ∃ W : World, wi.alloc (.cells k.cs 25) = W := ⟨_, rfl⟩
      have x4 : Ext wi w4 := hw4 ▸ Ext.alloc _ _
      have HR4 := Lib.hid (show w4.rangeAt wi.heap.size 0 k.cs.toList from by rw [← hw4]; exact rangeAt_new wi k.cs 25)
      have HE4 := Lib.hid hw4
      have HX4 := Lib.hid (hxi.out.trans x4)
      have HAD := Lib.hid (refAdd_any ((m.take J).foldl addH Z) u7 k w.heap.size w4 (by
        obtain ⟨q2, n2, c2, he, hn2, hor⟩ := hY.out
        exact ⟨q2, n2, c2, he, hn2, hor.imp id fun ⟨b, o, hp, hb, hr⟩ => ⟨b, o, hp, hb, World.rangeAt.later x4.later hr⟩⟩) (by omega) (hxo.trans HX4.out).size)
      obtain ⟨qu, nu, cu, rfl, -⟩ := id hY.out
      clear hrJ hk hw4 x4 hY hxi hlen
      go_upto_region 8 with (first | (refine wpList_load_H rfl _ rfl b3 (o3 + J * 11) rfl k HRJ.out ?_) | (refine wpList_store_new rfl 25 _ _ rfl _ k.cs rfl rfl (by rw [k.size_cs]; kernel_rfl) (by rw [k.size_cs]; rfl) (all_oneCell_toArray k.one) ?_))
      try simp only [Act.put]
      rw [HE4.out]
      clear HE4 HRJ
      go_wp2_with (first | (refine wpList_load_H rfl _ rfl wi.heap.size 0 rfl k HR4.out ?_))
      refine HAD.out.mono ?_
      rintro e w5 ⟨⟨u, rfl, hu⟩, hx5⟩
      have HU := Lib.hid (show HSl w5 w.heap.size ((m.take (J + 1)).foldl addH Z) u from by rw [HTJ.out]; exact hu)
      have HX5 := Lib.hid (HX4.out.trans hx5)
      clear hu hx5 HAD HR4
      go_wp2_with fail
      go_roundw
      case rel => exact ⟨J + 1, by omega, by go_num, HU.out, HX5.out⟩
      case measure => simp [intOf]; omega
end Go.Proofs.YtdijlnibmeapbaaGreatDoor

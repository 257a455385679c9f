/- NodesAgain walked. -/
import Derived.Test.YtehdddilcakmlaaDoorNAct
import Derived.Test.YtehdddilcakmlaaDoorNRowsP
namespace Go.Proofs.YtehdddilcakmlaaDoor
open Go.RowKit Go.Sort Go.Maps Go.Lib
set_option linter.unusedSimpArgs false

def AgO (w0 w : World) (p : Nat) (S : List (Int × Int) × List NdD) (iv ev : Value) : Prop := AgS w0 w p S.2 iv ev (S.1.map Prod.fst) (S.1.map Prod.snd)
theorem AgO.snoc {w0 w : World} {p : Nat} {S : List (Int × Int)} {L : List NdD} {iv ev : Value} {a er : Int} (h : AgS w0 w p L iv ev (S.map Prod.fst ++ [a]) (S.map Prod.snd ++ [er])) : AgO w0 w p (S ++ [(a, er)], L) iv ev := by
  unfold AgO
  simp only [List.map_append, List.map_cons, List.map_nil]
  exact h

set_option maxHeartbeats 16000000 in
set_option maxRecDepth 100000 in
theorem lawAgain_any (l : List ActD) (turn : Int) (v : Value) (w : World) (h : ActsOn w l v) (hturn : -9223372036854775808 ≤ turn ∧ turn ≤ 9223372036854775807) (ht : Tb w) :
    Calls Tryd.prog 6 #[v, .int .i64 turn] w fun e w' => e = .returned (.bool true) ∧ Ext w w' := by
  have HTB := Lib.hid ht
  have HAC := Lib.hid h
  have HTN := Lib.hid hturn
  obtain ⟨pa, la, ca, rfl, hla, hlc, hcm, hlm, -⟩ := h
  have HLA := Lib.hid hla
  have HAT := Lib.hid (actsAt HAC.out)
  clear hla ht hturn
  go_enter Tryd.func6, Tryd.ntmps6
  go_wp2_with fail
  refine (great_any l _ w HAC.out).mono ?_
  rintro e w1 ⟨g, rfl, rfl, hg⟩
  cases g with
  | true =>
    clear hg
    go_wp2_with fail
    refine (wakes20_any w HTB.out).mono ?_
    rintro e w6 ⟨rfl, hx6⟩
    go_wp2_with fail
    go_ret
    exact ⟨rfl, hx6⟩
  | false =>
    have HG := Lib.hid (hg rfl)
    clear hg
    by_cases h100 : 100 < la
    · go_wp2_with fail
      refine (wakes20_any w HTB.out).mono ?_
      rintro e w6 ⟨rfl, hx6⟩
      go_wp2_with fail
      go_ret
      exact ⟨rfl, hx6⟩
    go_wp2_with fail
    refine (newO w).mono ?_
    rintro e w1 ⟨p, rfl, hd⟩
    have HNEW := Lib.hid (AgS.new hd)
    clear hd
    go_wp2_with fail
    go_loopw [6, 7, 8] (fun iv ev i wr => ∃ I : Nat, I ≤ la ∧ i = .int .i64 I ∧ Hid (AgO w wr p (runA (l.take I)) iv ev)) (fun _ _ i _ => la - (intOf i).toNat)
    case atStart => exact ⟨0, Nat.zero_le _, rfl, HNEW.out⟩
    case round =>
      obtain ⟨wo, rfl⟩ : ∃ wo : World, wo = wr := ⟨_, rfl⟩
      obtain ⟨I, hI, rfl, hs⟩ := hrel
      by_cases h2 : I < la
      · have hIl : I < l.length := by rw [← HLA.out]; exact h2
        obtain ⟨b, o, q, m, c, rfl, hcs, hrow, -, hok⟩ := HAT.out wo hs.out.ex I hIl
        obtain ⟨x, hx⟩ : ∃ x, x = l[I] := ⟨_, rfl⟩
        have HTK := Lib.hid (show runA (l.take (I + 1)) = runS (runA (l.take I)) x from by rw [hx]; exact runA_take l I hIl)
        have HS := Lib.hid (show Sm x from by rw [hx]; exact HG.out.2 _ (List.getElem_mem _))
        rw [← hx] at hcs hrow hok
        have c0 : wo.cell? ⟨b, o + I * 6, none⟩ = some (.int .i64 x.d) := by simpa using hcs 0 _ rfl
        have c1 : wo.cell? ⟨b, o + I * 6 + 1, none⟩ = some (.slice q m c) := hcs 1 _ rfl
        have c2 : wo.cell? ⟨b, o + I * 6 + 2, none⟩ = some (.int .i8 x.f) := hcs 2 _ rfl
        have c3 : wo.cell? ⟨b, o + I * 6 + 3, none⟩ = some (.int .u64 x.n) := hcs 3 _ rfl
        have c4 : wo.cell? ⟨b, o + I * 6 + 4, none⟩ = some (.int .i64 x.hi) := hcs 4 _ rfl
        have c5 : wo.cell? ⟨b, o + I * 6 + 5, none⟩ = some (.int .i64 x.lo) := hcs 5 _ rfl
        obtain ⟨S, hS⟩ : ∃ S, S = runA (l.take I) := ⟨_, rfl⟩
        have HSL := Lib.hid (show S.1.length = I from by rw [hS, runA_len, List.length_take]; omega)
        rw [← hS] at hs HTK
        obtain ⟨F, hF1, hF2⟩ := hs.out.st
        have HF2 := Lib.hid hF2
        have HAV := Lib.hid (act_any p S.2 x (.slice q m c) wo hF1 hrow hok HS.out (HTB.out.ext hs.out.ex))
        clear hx hS hrow hok hcs hF1 hF2
        go_wp2_with fail
        refine HAV.out.mono ?_
        rintro e w2 ⟨rfl, F', hto⟩
        have HS2 := Lib.hid (hs.out.op HF2.out hto)
        obtain ⟨a, ha⟩ : ∃ a, a = (actP S.2 x).1.1 := ⟨_, rfl⟩
        obtain ⟨er, her⟩ : ∃ er, er = (actP S.2 x).1.2 := ⟨_, rfl⟩
        have HRS := Lib.hid (show runS S x = (S.1 ++ [(a, er)], (actP S.2 x).2) from by rw [ha, her]; rfl)
        rw [← ha, ← her]
        have HS3 := Lib.hid (HS2.out.ext (Ext.alloc w2 (.cells #[.int .i64 a] 3)))
        have HLI := Lib.hid (show (S.1.map Prod.fst).length = I ∧ (S.1.map Prod.snd).length = I from ⟨by rw [List.length_map]; exact HSL.out, by rw [List.length_map]; exact HSL.out⟩)
        clear c0 c1 c2 c3 c4 c5 hto ha her HAV
        go_upto_region 11 with (at_builtin; refine wpList_append_E elemI rfl (.tmp 40) (.tmp 42) rfl w.heap.size u6 _ _ rfl HS3.out.io (some ⟨w2.heap.size, 0, none⟩) 1 1 [.int .i64 a] rfl rfl (.inr ⟨_, rfl, fun i u hu => by
              cases i with
              | zero => simp at hu; subst hu; simp [go_sem]
              | succ i => simp at hu⟩) (by intro u hu; simp at hu; subst hu; rfl) (by rw [HLI.out.1]; omega) (by rw [HLI.out.1]; omega) HS3.out.ex.size ?_; intro v4 w4 o4 g4 t4)
        have HS4 := Lib.hid (HS3.out.pushI o4 g4 t4)
        have HS5 := Lib.hid (HS4.out.ext (Ext.alloc w4 (.cells #[.int .i64 er] 36)))
        clear o4 g4 t4
        go_wp2_with (at_builtin; refine wpList_append_E elemE rfl (.tmp 44) (.tmp 46) rfl w.heap.size u7 _ _ rfl HS5.out.eo (some ⟨w4.heap.size, 0, none⟩) 1 1 [.int .i64 er] rfl rfl (.inr ⟨_, rfl, fun i u hu => by
              cases i with
              | zero => simp at hu; subst hu; simp [go_sem]
              | succ i => simp at hu⟩) (by intro u hu; simp at hu; subst hu; rfl) (by rw [HLI.out.2]; omega) (by rw [HLI.out.2]; omega) HS5.out.ex.size ?_; intro v6 w6 o6 g6 t6)
        have HS6 := Lib.hid (AgO.snoc (HS5.out.pushE o6 g6 t6))
        clear o6 g6 t6
        go_roundw
        case rel => exact ⟨I + 1, by omega, by go_num, by rw [HTK.out, HRS.out]; exact HS6.out⟩
        case measure => simp [intOf]; omega
      obtain rfl : I = la := by omega
      have hs1 : AgO w wo p (runA l) u6 u7 := by
        have h3 := hs.out
        rwa [List.take_of_length_le (by have := HLA.out; omega)] at h3
      have HAG := Lib.hid (runA_again l).2
      have HSL := Lib.hid (show (runA l).1.length = I from (runA_len l).trans HLA.out.symm)
      clear hs
      generalize runA l = S at *
      have HS1 := Lib.hid hs1
      obtain ⟨F, hF1, -⟩ := hs1.st
      have HLN := Lib.hid (lenS_any p S.2 wo hF1)
      clear hs1 hF1
      go_wp2_with fail
      refine HLN.out.mono ?_
      rintro e w2 ⟨rfl, rfl⟩
      obtain ⟨N, hN⟩ : ∃ N, N = S.2.length := ⟨_, rfl⟩
      rw [← hN]
      have HNN := Lib.hid hN
      clear hN HLN
      go_wp2_with fail
      go_loopw [12] (fun i wr => ∃ K : Nat, K ≤ 2 * I ∧ i = .int .i64 K ∧ Hid (AgO w wr p S u6 u7)) (fun i _ => 2 * I - (intOf i).toNat)
      case atStart => exact ⟨0, Nat.zero_le _, rfl, HS1.out⟩
      case round =>
        obtain ⟨wn, rfl⟩ : ∃ wn : World, wn = wr := ⟨_, rfl⟩
        obtain ⟨K, hK, rfl, hs⟩ := hrel
        by_cases hk : K < 2 * I
        case neg =>
          obtain rfl : K = 2 * I := by omega
          have HEX := Lib.hid hs.out.ex
          obtain ⟨F, hF1, -⟩ := hs.out.st
          have HLN := Lib.hid (lenS_any p S.2 wn hF1)
          rw [← HNN.out] at HLN
          clear hs hF1
          go_wp2_with fail
          refine HLN.out.mono ?_
          rintro e w2 ⟨rfl, rfl⟩
          go_wp2_with fail
          refine (wakes20_any wn (HTB.out.ext HEX.out)).mono ?_
          rintro e w6 ⟨rfl, hx6⟩
          go_wp2_with fail
          go_ret
          exact ⟨rfl, HEX.out.trans hx6⟩
        have hl0 : 0 < I := by omega
        obtain ⟨j, hj, hjI⟩ : ∃ j : Nat, (wrap64 ((wrap64 ((K : Int) * 7 + turn)).tmod I + I)).tmod I = (j : Int) ∧ j < I := ⟨_, idx_wrap _ I hl0 (by omega)⟩
        have HJ := Lib.hid hj
        have hjS : j < S.1.length := by rw [HSL.out]; exact hjI
        obtain ⟨a, er, hre⟩ : ∃ a er, S.1[j]? = some (a, er) := ⟨_, _, List.getElem?_eq_getElem hjS⟩
        have hjl : j < l.length := by rw [← HLA.out]; exact hjI
        obtain ⟨gi, ci, hui, hci⟩ := hs.out.cellI (k := j) (a := a) (by rw [List.getElem?_map, hre]; rfl)
        obtain ⟨ge, ce, hue, hce⟩ := hs.out.cellE (k := j) (a := er) (by rw [List.getElem?_map, hre]; rfl)
        rw [List.length_map, HSL.out] at hui hue
        subst hui hue
        have HRE := Lib.hid hre
        clear hj hre
        go_upto_region 17 with fail
        rw [HJ.out]
        clear HJ
        by_cases her : er = 0
        case neg =>
          have hne : (er != 0) = true := by rw [bne_iff_ne]; exact her
          go_wp2_with fail
          go_roundw
          case rel => exact ⟨K + 1, by omega, by go_num, hs.out⟩
          case measure => simp [intOf]; omega
        subst her
        obtain ⟨b, o, q, m, c, rfl, hcs, hrow, -, hok⟩ := HAT.out wn hs.out.ex j hjl
        obtain ⟨x, hx⟩ : ∃ x, x = l[j] := ⟨_, rfl⟩
        have HAP := Lib.hid (show actP S.2 x = ((a, 0), S.2) from HAG.out j a HRE.out x (by rw [hx]; exact List.getElem?_eq_getElem hjl))
        have HSM := Lib.hid (show Sm x from by rw [hx]; exact HG.out.2 _ (List.getElem_mem _))
        rw [← hx] at hcs hrow hok
        have c0 : wn.cell? ⟨b, o + j * 6, none⟩ = some (.int .i64 x.d) := by simpa using hcs 0 _ rfl
        have c1 : wn.cell? ⟨b, o + j * 6 + 1, none⟩ = some (.slice q m c) := hcs 1 _ rfl
        have c2 : wn.cell? ⟨b, o + j * 6 + 2, none⟩ = some (.int .i8 x.f) := hcs 2 _ rfl
        have c3 : wn.cell? ⟨b, o + j * 6 + 3, none⟩ = some (.int .u64 x.n) := hcs 3 _ rfl
        have c4 : wn.cell? ⟨b, o + j * 6 + 4, none⟩ = some (.int .i64 x.hi) := hcs 4 _ rfl
        have c5 : wn.cell? ⟨b, o + j * 6 + 5, none⟩ = some (.int .i64 x.lo) := hcs 5 _ rfl
        obtain ⟨F, hF1, hF2⟩ := hs.out.st
        have HF2 := Lib.hid hF2
        have HAV := Lib.hid (act_any p S.2 x (.slice q m c) wn hF1 hrow hok HSM.out (HTB.out.ext hs.out.ex))
        rw [HAP.out] at HAV
        clear hx hrow hok hcs hF1 hF2
        go_wp2_with fail
        refine HAV.out.mono ?_
        rintro e w2 ⟨rfl, F', hto⟩
        have hs2 := hs.out.op HF2.out hto
        have HS2 := Lib.hid (show AgO w w2 p S _ _ from hs2)
        have c6 := hs2.cellI (k := j) (a := a) (by rw [List.getElem?_map, HRE.out]; rfl)
        obtain ⟨gi', ci', he, c6⟩ := c6
        have he1 := (Value.slice.inj he).1
        clear he
        cases he1
        clear c0 c1 c2 c3 c4 c5 hto hs2 HAV hci hce hs
        go_wp2_with fail
        go_roundw
        case rel => exact ⟨K + 1, by omega, by go_num, HS2.out⟩
        case measure => simp [intOf]; omega
end Go.Proofs.YtehdddilcakmlaaDoor

/- law 20's great. -/
import Derived.Test.YtehdddilcakmlaaDoorNOpen2
import Derived.Test.YtehdddilcakmlaaDoorNAlike
namespace Go.Proofs.YtehdddilcakmlaaDoor
open Go.RowKit Go.Sort Go.Maps Go.Lib
set_option linter.unusedSimpArgs false

def Sm (x : ActD) : Prop := x.rows.length ≤ 8192 ∧ ∀ r ∈ x.rows, r.length ≤ 8192
def GreatPost (l : List ActD) (w : World) (e : Ending) (w' : World) : Prop := ∃ g : Bool, e = .returned (.bool g) ∧ w = w' ∧ (g = false → l.length ≤ 200 ∧ ∀ x ∈ l, Sm x)
theorem actsAt {w : World} {l : List ActD} {p : Option Addr} {len cap : Nat} (h : ActsOn w l (.slice p len cap)) : ∀ W, Ext w W → ∀ i (hi : i < l.length), ∃ b o q m c, p = some ⟨b, o, none⟩ ∧ W.rangeAt b (o + i * 6) ((l[i]).cs (.slice q m c)) ∧ RowsOn AnyB W (l[i]).rows (.slice q m c) ∧ m = (l[i]).rows.length ∧ (l[i]).ok := by
  obtain ⟨_, _, _, he, h1, h2, h3, h4, hh⟩ := h
  cases he
  intro W hW i hi
  rcases hh with hh | ⟨b, o, hp, -, hat⟩
  · rw [hh] at hi; simp at hi
  · obtain ⟨rv, hr, hrow, hok⟩ := hat i hi
    have hrow' := hrow
    obtain ⟨q, m, c, rfl, hm, -⟩ := hrow
    exact ⟨b, o, q, m, c, hp, World.rangeAt.later hW.later hr, hrow'.ext hW, hm, hok⟩

set_option maxHeartbeats 8000000 in
set_option maxRecDepth 100000 in
theorem great_any (l : List ActD) (v : Value) (w : World) (h : ActsOn w l v) :
    Calls Tryd.prog 8 #[v] w (GreatPost l w) := by
  have HAC := Lib.hid h
  obtain ⟨pa, la, ca, rfl, hla, hlc, hcm, hlm, -⟩ := h
  have HLA := Lib.hid hla
  have HAT := Lib.hid (actsAt HAC.out)
  clear hla HAC
  go_enter Tryd.func8, Tryd.ntmps8
  go_wp2_with fail
  go_loopw [3, 4] (fun n i wr => ∃ N I : Nat, I ≤ la ∧ n = .int .i64 N ∧ i = .int .i64 I ∧ N ≤ 8193 + 140737488351232 ∧ Hid (N ≤ 8192 → ∀ j (h : j < l.length), j < I → Sm l[j]) ∧ w = wr) (fun _ i _ => la - (intOf i).toNat)
  case atStart => exact ⟨0, 0, Nat.zero_le _, rfl, rfl, by omega, fun _ j _ h => by omega, rfl⟩
  case round =>
    obtain ⟨N, I, hI, rfl, rfl, hN, hall, rfl⟩ := hrel
    by_cases h2 : I < la
    case neg =>
      by_cases h200 : 200 < la
      · clear hall
        go_wp2_with fail
        go_ret
        exact ⟨true, rfl, rfl, fun h => by cases h⟩
      by_cases h8 : 8192 < N
      · clear hall
        have z : (decide ((200 : Int) < la) || decide ((8192 : Int) < N)) = true := by simp; omega
        have HZ := Lib.hid z
        clear z
        go_wp2_with fail
        go_ret
        exact ⟨_, rfl, rfl, fun h => by rw [HZ.out] at h; cases h⟩
      have HF := Lib.hid (show l.length ≤ 200 ∧ ∀ x ∈ l, Sm x from ⟨by rw [← HLA.out]; omega, fun x hx => by
        obtain ⟨j, hj, rfl⟩ := List.getElem_of_mem hx
        exact hall.out (by omega) j hj (by have := HLA.out; omega)⟩)
      clear hall
      go_wp2_with fail
      go_ret
      exact ⟨_, rfl, rfl, fun _ => HF.out⟩
    by_cases h3 : I ≤ 200
    case neg =>
      have h200 : 200 < la := by omega
      clear hall
      go_wp2_with fail
      go_ret
      exact ⟨true, rfl, rfl, fun h => by cases h⟩
    by_cases h8 : N ≤ 8192
    case neg =>
      clear hall
      by_cases h200 : 200 < la
      · go_wp2_with fail
        go_ret
        exact ⟨true, rfl, rfl, fun h => by cases h⟩
      have h9 : 8192 < N := by omega
      go_wp2_with fail
      go_ret
      exact ⟨true, rfl, rfl, fun h => by cases h⟩
    have hIl : I < l.length := by rw [← HLA.out]; exact h2
    obtain ⟨b, o, q, m, c, rfl, hcs, hrow, hm, hok⟩ := HAT.out w (Ext.refl _) I hIl
    obtain ⟨x, hx⟩ : ∃ x, x = l[I] := ⟨_, rfl⟩
    rw [← hx] at hcs hrow hm hok
    have HX := Lib.hid hx
    have c1 : w.cell? ⟨b, o + I * 6 + 1, none⟩ = some (.slice q m c) := hcs 1 _ rfl
    have HM := Lib.hid hm
    have HRA := Lib.hid (rowsAt hrow w (Ext.refl _))
    obtain ⟨_, _, _, he, -, hmc, hmx, -⟩ := hrow
    cases he
    have HB := Lib.hid hok.2.2.2.2.2
    have hmB : m ≤ 140737488351232 := by have := HB.out.1; rw [hm]; exact this
    clear hx hm hok hcs
    have hNN := Lib.hid hN
    clear hN
    go_wp2_with fail
    go_loopw [3, 5] (fun n i wr => ∃ N2 K : Nat, K ≤ m ∧ n = .int .i64 N2 ∧ i = .int .i64 K ∧ N2 ≤ 8193 + 140737488351232 ∧ Hid (N2 ≤ 8192 → K ≤ N2 ∧ ∀ j (h : j < x.rows.length), j < K → (x.rows[j]).length ≤ 8192) ∧ w = wr) (fun _ i _ => m - (intOf i).toNat)
    case atStart => exact ⟨N, 0, Nat.zero_le _, rfl, rfl, hNN.out, fun _ => ⟨Nat.zero_le _, fun j _ h => by omega⟩, rfl⟩
    case round =>
      obtain ⟨N2, K, hK, rfl, rfl, hN2, hin, rfl⟩ := hrel
      by_cases hk : K < m
      case neg =>
        have HALL := Lib.hid (show N2 ≤ 8192 → ∀ j (h : j < l.length), j < I + 1 → Sm l[j] from fun h9 j hj hjI => by
          by_cases he : j = I
          · subst he
            rw [← HX.out]
            have h7 := hin.out h9
            refine ⟨by rw [← HM.out]; omega, fun r hr => ?_⟩
            obtain ⟨i, hi, rfl⟩ := List.getElem_of_mem hr
            exact h7.2 i hi (by rw [← HM.out] at hi; omega)
          · exact hall.out h8 j hj (by omega))
        clear hin hall
        go_wp2_with fail
        go_roundw
        case rel => exact ⟨N2, I + 1, by omega, rfl, by go_num, hN2, HALL.out, trivial⟩
        case measure => simp [intOf]; omega
      by_cases h9 : N2 ≤ 8192
      case neg =>
        have HALL := Lib.hid (show N2 ≤ 8192 → ∀ j (h : j < l.length), j < I + 1 → Sm l[j] from fun h10 => absurd h10 h9)
        clear hin hall
        go_wp2_with fail
        go_roundw
        case rel => exact ⟨N2, I + 1, by omega, rfl, by go_num, hN2, HALL.out, trivial⟩
        case measure => simp [intOf]; omega
      have hKl : K < x.rows.length := by rw [← HM.out]; exact hk
      obtain ⟨qb, qo, u, rfl, hu, hro⟩ := HRA.out K hKl
      obtain ⟨p1, n1, k1, rfl, hn1, hn2, hn3, -⟩ := hro
      have hn4 : n1 ≤ 140737488351232 := by rw [hn1]; exact HB.out.2 _ (List.getElem_mem _)
      have HIN := Lib.hid (show N2 + 1 + n1 ≤ 8192 → K + 1 ≤ N2 + 1 + n1 ∧ ∀ j (h : j < x.rows.length), j < K + 1 → (x.rows[j]).length ≤ 8192 from fun h10 => by
        have h7 := hin.out h9
        refine ⟨by omega, fun j hj hjK => ?_⟩
        by_cases he : j = K
        · subst he
          rw [← hn1]; omega
        · exact h7.2 j hj (by omega))
      have HALL := hall
      clear hn1 hin hall
      go_wp2_with fail
      go_roundw
      case rel => exact ⟨N2 + 1 + n1, K + 1, by omega, by go_num, by go_num, by omega, HIN.out, trivial⟩
      case measure => simp [intOf]; omega
end Go.Proofs.YtehdddilcakmlaaDoor

/- law 12's Heads. -/
import Derived.Test.YtjjbdbklbghlhaaGreatDoorMN
import Derived.Test.YtjjbdbklbghlhaaGreatDoorMU
import Derived.Test.YtjjbdbklbghlhaaGreatDoorMQ
import Derived.Test.YtjjbdbklbghlhaaGreatDoorMO
import Derived.Test.YtjjbdbklbghlhaaGreatDoorMA
import Derived.Test.YtjjbdbklbghlhaaGreatDoorMR
import Derived.Test.YtjjbdbklbghlhaaGreatDoorMV
import Derived.Test.YtjjbdbklbghlhaaGreatDoorMD
import Derived.Carry
import Derived.Test.YtjjbdbklbghlhaaGreatDoorCards
import Derived.Test.YtjjbdbklbghlhaaGreatDoorTie
import Derived.SevenTiedAt
namespace Go.Proofs.YtjjbdbklbghlhaaGreatDoor
open Go.RowKit Go.Maps
set_option linter.unusedSimpArgs false

set_option maxRecDepth 100000 in
set_option maxHeartbeats 2000000 in
theorem heads_any (l m : List Hdr) (u v : Value) (lo lo' : Nat) (w : World) (hu : HSl w lo l u) (hv : HSl w lo' m v) (h64 : l.length ≤ 65600) :
    Calls Tryz.prog 18 #[u, v] w fun e w' => e = .returned (.bool (decide (l = m))) ∧ Ext w w' := by
  obtain ⟨p, len, cap, rfl, hlen, hl⟩ := hu
  obtain ⟨p', len', cap', rfl, hlen', hm⟩ := hv
  have HL := Lib.hid hlen
  have HL' := Lib.hid hlen'
  clear hlen hlen'
  have hlen64 : len ≤ 65600 := by have := HL.out; omega
  by_cases hn : len = len'
  · subst hn
    have hd : ((len : Int) != len) = false := by simp
    go_enter Tryz.func18, Tryz.ntmps18
    go_wp2_with fail
    go_loopw [5] (fun i wr => ∃ (j n : Nat), j ≤ len ∧ i = .int .i64 j ∧ Hid (decide (l = m) = decide (l.drop j = m.drop j)) ∧ wr = w.drewN n) (fun i _ => len - (intOf i).toNat)
    case atStart => exact ⟨0, 0, Nat.zero_le _, rfl, rfl, rfl⟩
    case round =>
      obtain ⟨j, n, hj, rfl, hR, rfl⟩ := hrel
      by_cases hlt : j < len
      · have hjl : j < l.length := by rw [← HL.out]; exact hlt
        have hjm : j < m.length := by rw [← HL'.out]; exact hlt
        rcases hl with hl | ⟨b, o, rfl, -, hr⟩
        · exfalso; subst hl; simp at hjl
        rcases hm with hm | ⟨b', o', rfl, -, hr'⟩
        · exfalso; subst hm; simp at hjm
        have hrj := rangeAt_get Hdr.len_cs hr j hjl
        have hrj' := rangeAt_get Hdr.len_cs hr' j hjm
        have p0 : w.cell? ⟨b, o + j * 11, none⟩ = some (.int .u64 ((l[j]).f 0)) := cellAt hrj 0 (by omega)
        have p1 : w.cell? ⟨b, o + j * 11 + 1, none⟩ = some (.int .u64 ((l[j]).f 1)) := cellAt hrj 1 (by omega)
        have p2 : w.cell? ⟨b, o + j * 11 + 2, none⟩ = some (.int .u64 ((l[j]).f 2)) := cellAt hrj 2 (by omega)
        have p3 : w.cell? ⟨b, o + j * 11 + 3, none⟩ = some (.int .u64 ((l[j]).f 3)) := cellAt hrj 3 (by omega)
        have p4 : w.cell? ⟨b, o + j * 11 + 4, none⟩ = some (.int .u64 ((l[j]).f 4)) := cellAt hrj 4 (by omega)
        have p5 : w.cell? ⟨b, o + j * 11 + 5, none⟩ = some (.int .u64 ((l[j]).f 5)) := cellAt hrj 5 (by omega)
        have p6 : w.cell? ⟨b, o + j * 11 + 6, none⟩ = some (.int .u64 ((l[j]).f 6)) := cellAt hrj 6 (by omega)
        have p7 : w.cell? ⟨b, o + j * 11 + 7, none⟩ = some (.int .u64 ((l[j]).f 7)) := cellAt hrj 7 (by omega)
        have p8 : w.cell? ⟨b, o + j * 11 + 8, none⟩ = some (.int .u64 ((l[j]).f 8)) := cellAt hrj 8 (by omega)
        have p9 : w.cell? ⟨b, o + j * 11 + 9, none⟩ = some (.int .u64 ((l[j]).f 9)) := cellAt hrj 9 (by omega)
        have p10 : w.cell? ⟨b, o + j * 11 + 10, none⟩ = some (.int .u64 ((l[j]).f 10)) := cellAt hrj 10 (by omega)
        have q0 : w.cell? ⟨b', o' + j * 11, none⟩ = some (.int .u64 ((m[j]).f 0)) := cellAt hrj' 0 (by omega)
        have q1 : w.cell? ⟨b', o' + j * 11 + 1, none⟩ = some (.int .u64 ((m[j]).f 1)) := cellAt hrj' 1 (by omega)
        have q2 : w.cell? ⟨b', o' + j * 11 + 2, none⟩ = some (.int .u64 ((m[j]).f 2)) := cellAt hrj' 2 (by omega)
        have q3 : w.cell? ⟨b', o' + j * 11 + 3, none⟩ = some (.int .u64 ((m[j]).f 3)) := cellAt hrj' 3 (by omega)
        have q4 : w.cell? ⟨b', o' + j * 11 + 4, none⟩ = some (.int .u64 ((m[j]).f 4)) := cellAt hrj' 4 (by omega)
        have q5 : w.cell? ⟨b', o' + j * 11 + 5, none⟩ = some (.int .u64 ((m[j]).f 5)) := cellAt hrj' 5 (by omega)
        have q6 : w.cell? ⟨b', o' + j * 11 + 6, none⟩ = some (.int .u64 ((m[j]).f 6)) := cellAt hrj' 6 (by omega)
        have q7 : w.cell? ⟨b', o' + j * 11 + 7, none⟩ = some (.int .u64 ((m[j]).f 7)) := cellAt hrj' 7 (by omega)
        have q8 : w.cell? ⟨b', o' + j * 11 + 8, none⟩ = some (.int .u64 ((m[j]).f 8)) := cellAt hrj' 8 (by omega)
        have q9 : w.cell? ⟨b', o' + j * 11 + 9, none⟩ = some (.int .u64 ((m[j]).f 9)) := cellAt hrj' 9 (by omega)
        have q10 : w.cell? ⟨b', o' + j * 11 + 10, none⟩ = some (.int .u64 ((m[j]).f 10)) := cellAt hrj' 10 (by omega)
        have hg := guardH
        have HE := Lib.hid (show decide (l = m) = if l[j] = m[j] then decide (l.drop (j + 1) = m.drop (j + 1)) else false from by
          rw [hR.out, drop_get hjl, drop_get hjm]
          rw [Bool.eq_iff_iff]
          by_cases h : l[j] = m[j]
          · rw [if_pos h, decide_eq_true_iff, decide_eq_true_iff, List.cons.injEq]; exact ⟨fun a => a.2, fun a => ⟨h, a⟩⟩
          · rw [if_neg h, decide_eq_true_iff, List.cons.injEq]; exact ⟨fun a => absurd a.1 h, fun a => by cases a⟩)
        have he := eqH (l[j]) (m[j])
        simp only [Hdr.cs_eq] at he
        generalize l[j] = x at *
        generalize m[j] = y at *
        by_cases hxy : x = y
        · have HF := Lib.hid (HE.out.trans (if_pos hxy))
          rw [show decide (x = y) = true from by simpa using hxy] at he
          clear hxy HE
          go_wp2_with fail
          go_quiet (fail)
          go_wp2_with fail
          go_roundw
          case rel => exact ⟨j + 1, _, by omega, by go_num, HF.out, rfl⟩
          case measure => simp [intOf]; omega
        · have HF := Lib.hid (HE.out.trans (if_neg hxy))
          rw [show decide (x = y) = false from by simpa using hxy] at he
          clear hxy HE
          go_wp2_with fail
          go_quiet (fail)
          go_wp2_with fail
          go_ret
          exact ⟨by rw [HF.out]; rfl, (Ext.drewN _ _).andDrewN _⟩
      · have HF := Lib.hid (show decide (l = m) = true from by
          rw [hR.out, List.drop_of_length_le (by have := HL.out; omega), List.drop_of_length_le (by have := HL'.out; omega)]; rfl)
        go_wp2_with fail
        go_ret
        exact ⟨by rw [HF.out]; rfl, Ext.drewN _ _⟩
  · have HF := Lib.hid (show decide (l = m) = false from by
      simp only [decide_eq_false_iff_not]
      rintro rfl
      exact hn (HL.out.trans HL'.out.symm))
    have hd : ((len : Int) != len') = true := by simp; omega
    go_enter Tryz.func18, Tryz.ntmps18
    go_wp2_with fail
    go_ret
    exact ⟨by rw [HF.out]; rfl, Ext.refl _⟩

end Go.Proofs.YtjjbdbklbghlhaaGreatDoor
/- A choice in plain words. -/
namespace Go.Proofs.YtjjbdbklbghlhaaGreatDoor
open Go.RowKit Go.Sort Go.Maps Go.Lib
set_option linter.unusedSimpArgs false

def yesT (p : Tm) : Tm := .mk 6 0 0 [p]
def noT (p : Tm) : Tm := .mk 6 0 0 [.mk 3 0 0 [p]]
def chT (p a b : Tm) : Tm := .mk 8 0 0 [.mk 9 0 0 [yesT p, a], .mk 9 0 0 [noT p, b]]
theorem chT_den (p a b : Tm) (x y : Hdr) : (chT p a b).den x y ↔ if p.holds x = true then a.den x y else b.den x y := by
  unfold chT yesT noT
  simp only [Tm.den, Tm.denAny, Tm.denThen, Tm.holdsHead, Tm.holds]
  simp only [show ¬ (8 : Int) = 6 from by decide, show ¬ (8 : Int) = 7 from by decide, show ¬ (8 : Int) = 9 from by decide, show ¬ (8 : Int) = 10 from by decide, show ¬ (9 : Int) = 6 from by decide, show ¬ (9 : Int) = 7 from by decide, show ¬ (3 : Int) = 1 from by decide, show ¬ (3 : Int) = 2 from by decide, if_true, if_false, or_false]
  cases p.holds x <;> simp
/-- the one part where the predicate holds, the other one elsewhere -/
theorem choice_runs {p a b : Tm} {L : List NdD} {ra rb rt : Out} (hG : Gd L) (hb6 : 6 ≤ a.op ∧ 6 ≤ b.op) (wa : wrongT a = 0) (wb : wrongT b = 0) (wt : wrongT (chT p a b) = 0)
    (ea : ra = termC a L) (eb : rb = termC b ra.2) (et : rt = termC (chT p a b) rb.2) (a0 : ra.1.1 = 0) (b0 : rb.1.1 = 0) (t0 : rt.1.1 = 0) (x : Hdr) :
    runsN rt.2 (if p.holds x = true then ra.1.2 else rb.1.2) x = runsN rt.2 rt.1.2 x := by
  have ga : Gd ra.2 := by rw [ea]; exact (termC_steps a L).good hG
  have gb : Gd rb.2 := by rw [eb]; exact (termC_steps b ra.2).good ga
  have pa := termC_any (L := L) wa hG
  have pb := termC_any (L := ra.2) wb ga
  have pt := termC_any (L := rb.2) wt gb
  rw [← ea] at pa
  rw [← eb] at pb
  rw [← et] at pt
  have fa : Fine L ra := by rw [ea]; exact termC_fine a hG.o
  have fb : Fine ra.2 rb := by rw [eb]; exact termC_fine b ga.o
  have ft : Fine rb.2 rt := by rw [et]; exact termC_fine _ gb.o
  refine (runsN_asc _ _ _).ext (runsN_asc _ _ _) fun y => ?_
  rw [runsN_mem, runsN_mem, pt.sem t0]
  have hd : (chT p a b).denW x y ↔ (chT p a b).den x y := by
    unfold Tm.denW
    rw [if_neg (by show ¬ (8 : Int) < 6; decide)]
  have ha : a.denW x y ↔ a.den x y := by
    unfold Tm.denW
    rw [if_neg (by omega)]
  have hb : b.denW x y ↔ b.den x y := by
    unfold Tm.denW
    rw [if_neg (by omega)]
  rw [hd, chT_den]
  split
  · rw [makes_pre ga.o (fb.pre.trans ft.pre) (fa.lt a0), pa.sem a0, ha]
  · rw [makes_pre gb.o ft.pre (fb.lt b0), pb.sem b0, hb]
end Go.Proofs.YtjjbdbklbghlhaaGreatDoor
/- What a store keeps, in plain words; its memory. -/
namespace Go.Proofs.YtjjbdbklbghlhaaGreatDoor
open Go.RowKit Go.Sort Go.Maps Go.Lib
set_option linter.unusedSimpArgs false

/-- what Of told is a node -/
theorem ofS_zero {L : List NdD} {t : Tm} (h : (ofS L t).1.2 = 0) : wrongT t = 0 ∧ (termC t L).1.1 = 0 ∧ ofS L t = ((((termC t L).1.2 : Int), 0), (termC t L).2) := by
  unfold ofS at *
  by_cases hw : wrongT t = 0
  · rw [if_neg (by omega)] at h ⊢
    unfold outD at *
    dsimp only at h
    refine ⟨hw, h, ?_⟩
    rw [if_pos h, h]
  · rw [if_pos hw] at h
    exact absurd h hw
theorem ofS_steps (L : List NdD) (t : Tm) : Steps L (ofS L t).2 := by
  unfold ofS
  split
  · exact .refl L
  · exact termC_steps t L
theorem runH_at {L : List NdD} {a : Nat} {h : Hdr} (ha : a < L.length) : runH L (a : Int) h = (0, runsN L a h) := by
  unfold runH
  rw [getP_inC ha, if_pos rfl, Int.toNat_natCast]
  rfl
theorem ofS_pre {L : List NdD} (h : InvO L) (t : Tm) : L <+: (ofS L t).2 := by
  unfold ofS
  split
  · exact List.prefix_refl _
  · exact (termC_fine t h).pre
/-- compiled again, a term is the node that it was -/
theorem ofS_again {L M : List NdD} {t : Tm} (hI : InvO L) (h : (ofS L t).1.2 = 0) (hp : (ofS L t).2 <+: M) (hM : InvO M) : ofS M t = ((ofS L t).1, M) := by
  obtain ⟨hw, h0, he⟩ := ofS_zero h
  have h1 := termC_again t hI (out_eta h0) (by rw [he] at hp; exact hp) hM
  have : ofS M t = outD (termC t M) := if_neg (fun e => e hw)
  rw [this, h1, he]
  rfl
theorem runsN_pre {L M : List NdD} (hI : InvO L) (hp : L <+: M) {a : Nat} (ha : a < L.length) (h : Hdr) : runsN M a h = runsN L a h := by
  refine (runsN_asc _ _ _).ext (runsN_asc _ _ _) fun y => ?_
  rw [runsN_mem, runsN_mem, makes_pre hI hp ha]
theorem getP_at {L : List NdD} {i : Nat} (h : i < L.length) : getP L (i : Int) = some (nodeP L i) := by
  unfold getP
  rw [if_pos ⟨by omega, by omega⟩, Int.toNat_natCast, nodeP_some h]
/-- what a slice of nodes holds of them -/
def WasOf (L : List NdD) (I : Nat) (xs : List Value) : Prop := xs.length = I * 5 ∧ ∀ i, i < I → xs[i * 5]? = some (.int .i8 (nodeP L i).f) ∧ xs[i * 5 + 1]? = some (.int .u64 (nodeP L i).n) ∧ xs[i * 5 + 2]? = some (.int .i64 (nodeP L i).hi) ∧ xs[i * 5 + 3]? = some (.int .i64 (nodeP L i).lo) ∧ ∃ q c, xs[i * 5 + 4]? = some (.slice q (nodeP L i).leaf.length c)
theorem WasOf.snoc {L : List NdD} {I : Nat} {xs : List Value} (h : WasOf L I xs) (q : Option Addr) (c : Nat) : WasOf L (I + 1) (xs ++ [.int .i8 (nodeP L I).f, .int .u64 (nodeP L I).n, .int .i64 (nodeP L I).hi, .int .i64 (nodeP L I).lo, .slice q (nodeP L I).leaf.length c]) := by
  obtain ⟨h1, h2⟩ := h
  refine ⟨by rw [List.length_append, h1]; simp only [List.length_cons, List.length_nil]; omega, fun i hi => ?_⟩
  by_cases he : i < I
  · obtain ⟨a, b, c', d, e⟩ := h2 i he
    rw [List.getElem?_append_left (by omega), List.getElem?_append_left (by omega), List.getElem?_append_left (by omega), List.getElem?_append_left (by omega), List.getElem?_append_left (by omega)]
    exact ⟨a, b, c', d, e⟩
  · obtain rfl : i = I := by omega
    rw [List.getElem?_append_right (by omega), List.getElem?_append_right (by omega), List.getElem?_append_right (by omega), List.getElem?_append_right (by omega), List.getElem?_append_right (by omega), h1]
    simp
theorem owns_keep {w w' : World} {S : Nat → Prop} {base : Nat} {e : TypeId} {k n : Nat} {v : Value} {xs : List Value} (h : w.ownsRow base e k v n xs) (hk : Keep S w w') (hn : ∀ g, v.ownBlock = some g → ¬ S g) : w'.ownsRow base e k v n xs := by
  obtain ⟨h1, h2⟩ := h
  refine ⟨h1, h2.imp id fun ⟨g, cap, cur, e1, e2, e3, e4⟩ => ⟨g, cap, cur, e1, e2, ?_, e4⟩⟩
  rw [hk.block g (Array.getElem?_eq_some_iff.1 e3).1 (hn g (by rw [e1]; rfl))]
  exact e3
theorem elemHs : Elem Tryz.prog 45 36 1 24 :=
  ⟨Tryz.underlying45, by obtain ⟨i, h1, h2, h3, h4⟩ := info_parts (show (Tryz.prog.info? 36).map (fun i => (i.zero, i.size, i.bytes)) = some (some (.slice none 0 0), 1, 24) from by kernel_rfl); exact ⟨i, _, h1, h2, h3, h4, rfl⟩, by omega, fun w => by kernel_rfl, by omega⟩
/-- headers that lie beside a slice that grows -/
def HSlx (w : World) (lo : Nat) (u : Value) (l : List Hdr) (v : Value) : Prop := ∃ p len cap, v = .slice p len cap ∧ len = l.length ∧ (l = [] ∨ ∃ b o, p = some ⟨b, o, none⟩ ∧ (lo ≤ b ∧ b < w.heap.size ∧ u.ownBlock ≠ some b) ∧ w.rangeAt b o (flatH l))
theorem HSlx.hsl {w : World} {lo : Nat} {u : Value} {l : List Hdr} {v : Value} (h : HSlx w lo u l v) : HSl w lo l v := by
  obtain ⟨p, len, cap, h1, h2, h3⟩ := h
  exact ⟨p, len, cap, h1, h2, h3.imp id fun ⟨b, o, hp, hb, hr⟩ => ⟨b, o, hp, hb.1, hr⟩⟩
theorem HSlx.of {w : World} {lo lo' : Nat} {u : Value} {l : List Hdr} {v : Value} (h : HSl w lo' l v) (hl : lo ≤ lo') (hu : ∀ g, u.ownBlock = some g → g < lo') : HSlx w lo u l v := by
  obtain ⟨p, len, cap, h1, h2, h3⟩ := h
  refine ⟨p, len, cap, h1, h2, ?_⟩
  rcases h3 with h3 | ⟨b, o, hp, hb, hr⟩
  · exact .inl h3
  · by_cases hl0 : l = []
    · exact .inl hl0
    · right
      refine ⟨b, o, hp, ⟨by omega, ?_, fun e => by have := hu b e; omega⟩, hr⟩
      have hpos : 0 < (flatH l).length := by
        rw [flatH_len]
        have := List.length_pos_iff.2 hl0
        omega
      exact World.block_lt_of_cell? w _ (hr 0 _ (List.getElem?_eq_getElem hpos))
theorem HSlx.ext {w w' : World} {lo : Nat} {u : Value} {l : List Hdr} {v : Value} (h : HSlx w lo u l v) (hx : Ext w w') : HSlx w' lo u l v := by
  obtain ⟨p, len, cap, h1, h2, h3⟩ := h
  exact ⟨p, len, cap, h1, h2, h3.imp id fun ⟨b, o, hp, hb, hr⟩ => ⟨b, o, hp, ⟨hb.1, Nat.lt_of_lt_of_le hb.2.1 hx.size, hb.2.2⟩, World.rangeAt.later hx.later hr⟩⟩
theorem HSlx.app {w w' : World} {lo : Nat} {u u' : Value} {l : List Hdr} {v : Value} (h : HSlx w lo u l v) (hg : w.grownBy w' u.ownBlock) (ht : u'.ownBlock = u.ownBlock ∨ u'.ownBlock = some w.heap.size) : HSlx w' lo u' l v := by
  obtain ⟨p, len, cap, h1, h2, h3⟩ := h
  refine ⟨p, len, cap, h1, h2, h3.imp id fun ⟨b, o, hp, hb, hr⟩ => ⟨b, o, hp, ⟨hb.1, Nat.lt_of_lt_of_le hb.2.1 hg.size, ?_⟩, fun j v hv => ?_⟩⟩
  · rcases ht with e | e
    · rw [e]; exact hb.2.2
    · rw [e]
      intro e2
      injection e2 with e2
      omega
  · rw [World.cell?_of_block (a := ⟨b, o + j, none⟩) (hg.block b hb.2.1 (fun e => hb.2.2 e.symm))]
    exact hr j v hv
theorem HSlx.keep {S : Nat → Prop} {w w' : World} {lo : Nat} {u : Value} {l : List Hdr} {v : Value} (h : HSlx w lo u l v) (hk : Keep S w w') (hs : ∀ b, lo ≤ b → ¬ S b) : HSlx w' lo u l v := by
  obtain ⟨p, len, cap, h1, h2, h3⟩ := h
  exact ⟨p, len, cap, h1, h2, h3.imp id fun ⟨b, o, hp, hb, hr⟩ => ⟨b, o, hp, ⟨hb.1, Nat.lt_of_lt_of_le hb.2.1 hk.size, hb.2.2⟩, hk.range hr (hs b hb.1)⟩⟩
/-- what was made, header by header -/
def MadeOf (w : World) (lo : Nat) (u : Value) (L : List NdD) (a : Nat) (l : List Hdr) (I : Nat) (vs : List Value) : Prop := vs.length = I ∧ ∀ k (_h1 : k < I) (h2 : k < l.length) (h3 : k < vs.length), HSlx w lo u (runsN L a l[k]) vs[k]
theorem MadeOf.ext {w w' : World} {lo : Nat} {u : Value} {L : List NdD} {a : Nat} {l : List Hdr} {I : Nat} {vs : List Value} (h : MadeOf w lo u L a l I vs) (hx : Ext w w') : MadeOf w' lo u L a l I vs := ⟨h.1, fun k h1 h2 h3 => (h.2 k h1 h2 h3).ext hx⟩
theorem MadeOf.keep {S : Nat → Prop} {w w' : World} {lo : Nat} {u : Value} {L : List NdD} {a : Nat} {l : List Hdr} {I : Nat} {vs : List Value} (h : MadeOf w lo u L a l I vs) (hk : Keep S w w') (hs : ∀ b, lo ≤ b → ¬ S b) : MadeOf w' lo u L a l I vs := ⟨h.1, fun k h1 h2 h3 => (h.2 k h1 h2 h3).keep hk hs⟩
theorem MadeOf.app {w w' : World} {lo : Nat} {u u' : Value} {L : List NdD} {a : Nat} {l : List Hdr} {I : Nat} {vs : List Value} (h : MadeOf w lo u L a l I vs) (hg : w.grownBy w' u.ownBlock) (ht : u'.ownBlock = u.ownBlock ∨ u'.ownBlock = some w.heap.size) : MadeOf w' lo u' L a l I vs := ⟨h.1, fun k h1 h2 h3 => (h.2 k h1 h2 h3).app hg ht⟩
theorem MadeOf.snoc {w : World} {lo : Nat} {u : Value} {L : List NdD} {a : Nat} {l : List Hdr} {I : Nat} {vs : List Value} (h : MadeOf w lo u L a l I vs) (hI : I < l.length) {v : Value} (hv : HSlx w lo u (runsN L a l[I]) v) : MadeOf w lo u L a l (I + 1) (vs ++ [v]) := by
  refine ⟨by rw [List.length_append, h.1]; rfl, fun k h1 h2 h3 => ?_⟩
  by_cases hk : k < I
  · rw [List.getElem_append_left (by rw [h.1]; exact hk)]
    exact h.2 k hk h2 _
  · obtain rfl : k = I := by omega
    rw [List.getElem_append_right (by rw [h.1]; exact Nat.le_refl _)]
    simpa [h.1] using hv
end Go.Proofs.YtjjbdbklbghlhaaGreatDoor
/- CompileKeeps walked. -/
namespace Go.Proofs.YtjjbdbklbghlhaaGreatDoor
open Go.RowKit Go.Sort Go.Maps Go.Lib
set_option linter.unusedSimpArgs false

set_option maxHeartbeats 16000000 in
set_option maxRecDepth 100000 in
theorem lawCKeeps_any (a b : Tm) (l : List Hdr) (va vb vl : Value) (w : World) (ha : a.Val w va) (hb : b.Val w vb) (hl : HSl w 0 l vl) (ht : Tb w) :
    Calls Tryz.prog 5 #[va, vb, vl] w fun e w' => e = .returned (.bool true) ∧ Ext w w' := by
  have HT := Lib.hid ht
  have HHL := Lib.hid hl
  have HVa := Lib.hid ha
  obtain ⟨cs, rfl, s, rfl, -, -, -, aq, al, ac, rfl, -⟩ := ha
  obtain ⟨ao, hoa⟩ : ∃ x, x = a.op := ⟨_, rfl⟩
  obtain ⟨af, hfa⟩ : ∃ x, x = a.fld := ⟨_, rfl⟩
  obtain ⟨an, hna⟩ : ∃ x, x = a.n := ⟨_, rfl⟩
  rw [← hoa, ← hfa, ← hna] at HVa ⊢
  have HOa := Lib.hid hoa
  clear hoa hfa hna
  have HVb := Lib.hid hb
  obtain ⟨cs, rfl, s, rfl, -, -, -, bq, bl, bc, rfl, -⟩ := hb
  obtain ⟨bo, hob⟩ : ∃ x, x = b.op := ⟨_, rfl⟩
  obtain ⟨bf, hfb⟩ : ∃ x, x = b.fld := ⟨_, rfl⟩
  obtain ⟨bn, hnb⟩ : ∃ x, x = b.n := ⟨_, rfl⟩
  rw [← hob, ← hfb, ← hnb] at HVb ⊢
  have HOb := Lib.hid hob
  clear hob hfb hnb
  obtain ⟨lp, ln, lc, rfl, hln, -⟩ := hl
  have HLN := Lib.hid hln
  obtain ⟨w1, hww1⟩ : ∃ W : World, w.alloc (.cells #[.int .i8 ao, .int .i8 af, .int .u64 an, .slice aq al ac] 26) = W := ⟨_, rfl⟩
  have xw1 : Ext w w1 := hww1 ▸ Ext.alloc _ _
  have sw1 : w1.heap.size = w.heap.size + 1 := by rw [← hww1, World.size_alloc]
  obtain ⟨w2, hww2⟩ : ∃ W : World, w1.alloc (.cells #[.int .i8 bo, .int .i8 bf, .int .u64 bn, .slice bq bl bc] 26) = W := ⟨_, rfl⟩
  have xw2 : Ext w1 w2 := hww2 ▸ Ext.alloc _ _
  have sw2 : w2.heap.size = w.heap.size + 1 + 1 := by rw [← hww2, World.size_alloc, sw1]
  have HE1 := Lib.hid (And.intro hww1 hww2)
  have HX1 := Lib.hid (xw1.trans xw2)
  have HBX := Lib.hid (show ∀ W, Ext w2 W → ((W.cell? ⟨w.heap.size, 0, none⟩ = some (.int .i8 ao) ∧ W.cell? ⟨w.heap.size, 1, none⟩ = some (.int .i8 af) ∧ W.cell? ⟨w.heap.size, 2, none⟩ = some (.int .u64 an) ∧ W.cell? ⟨w.heap.size, 3, none⟩ = some (.slice aq al ac)) ∧
      (W.cell? ⟨w.heap.size + 1, 0, none⟩ = some (.int .i8 bo) ∧ W.cell? ⟨w.heap.size + 1, 1, none⟩ = some (.int .i8 bf) ∧ W.cell? ⟨w.heap.size + 1, 2, none⟩ = some (.int .u64 bn) ∧ W.cell? ⟨w.heap.size + 1, 3, none⟩ = some (.slice bq bl bc))) from fun W hW => by
    have h1 := xw2.trans hW
    refine ⟨⟨h1.later _ _ ?_, h1.later _ _ ?_, h1.later _ _ ?_, h1.later _ _ ?_⟩, ⟨hW.later _ _ ?_, hW.later _ _ ?_, hW.later _ _ ?_, hW.later _ _ ?_⟩⟩
    all_goals first | (rw [← hww1]; simp [go_sem]; done) | (rw [← hww2, ← sw1]; simp [go_sem]; done))
  clear hww1 xw1 sw1 hww2 xw2 sw2 hln ht
  go_enter Tryz.func5, Tryz.ntmps5
  go_upto_region 1 with fail
  simp only [HE1.out.1, HE1.out.2]
  by_cases h20 : 20 < ln
  case pos =>
    have hd : decide (20 < (ln : Int)) = true := decide_eq_true (by omega)
    clear h20
    have HWK := Lib.hid (wakes22_any w2 (HT.out.ext HX1.out))
    go_wp2_with fail
    refine HWK.out.mono ?_
    rintro e wz ⟨rfl, hxz⟩
    go_wp2_with fail
    go_ret
    exact ⟨rfl, (HX1.out).trans hxz⟩
  have hd : decide (20 < (ln : Int)) = false := decide_eq_false (by omega)
  obtain ⟨w4, hww4⟩ : ∃ W : World, w2.alloc (.cells #[.int .i8 ao, .int .i8 af, .int .u64 an, .slice aq al ac, .int .i8 bo, .int .i8 bf, .int .u64 bn, .slice bq bl bc] 26) = W := ⟨_, rfl⟩
  have xw4 : Ext w2 w4 := hww4 ▸ Ext.alloc _ _
  have sw4 : w4.heap.size = w2.heap.size + 1 := by rw [← hww4, World.size_alloc]
  have HE4 := Lib.hid hww4
  have HX4 := Lib.hid xw4
  have HHV := Lib.hid (cheavy_any [a, b] w2.heap.size 2 2 w4 rfl (by decide) (by decide) (by
    rw [← hww4]
    exact allAt_two (HVa.out.later HX1.out.later) (HVb.out.later HX1.out.later) _))
  obtain ⟨hv, hhv⟩ : ∃ hv, hv = heavyP [a, b] := ⟨_, rfl⟩
  rw [← hhv] at HHV
  have HX4' := Lib.hid (HX1.out.trans HX4.out)
  clear hww4 xw4 sw4 hhv
  obtain ⟨⟨e0, e1, e2, e3⟩, ⟨g0, g1, g2, g3⟩⟩ := HBX.out w2 (Ext.refl _)
  go_wp2_with fail
  rw [HE4.out]
  refine HHV.out.mono ?_
  rintro e w5 ⟨rfl, hx5⟩
  have HX5 := Lib.hid (HX4'.out.trans hx5)
  have HX35 := Lib.hid (HX4.out.trans hx5)
  clear e0 e1 e2 e3 g0 g1 g2 g3 hx5 HHV HE4
  cases hv with
  | true =>
    have HWK := Lib.hid (wakes22_any w5 (HT.out.ext HX5.out))
    go_wp2_with fail
    refine HWK.out.mono ?_
    rintro e wz ⟨rfl, hxz⟩
    go_wp2_with fail
    go_ret
    exact ⟨rfl, (HX5.out).trans hxz⟩
  | false =>
    go_wp2_with fail
    refine (newS_any w5).mono ?_
    rintro e v1 ⟨sp, F1, rfl, hst, hF1, hv1⟩
    have HS1 := Lib.hid (show SD F1 v1 sp [] from ⟨hst, InvO.nil, w5, HT.out.ext HX5.out, hv1, hF1⟩)
    have HV1 := Lib.hid (And.intro hv1 hF1)
    have HOFA := Lib.hid (cof_any sp [] a _ v1 HS1.out ⟨w5, hv1, hF1, HVa.out.later HX5.out.later⟩)
    obtain ⟨⟨e0, e1, e2, e3⟩, -⟩ := HBX.out v1 (HX35.out.trans hv1)
    obtain ⟨Ra, hRa⟩ : ∃ Ra, Ra = ofS [] a := ⟨_, rfl⟩
    rw [← hRa] at HOFA
    have HRa := Lib.hid hRa
    clear hst hF1 hv1 hRa
    go_wp2_with fail
    refine HOFA.out.mono ?_
    intro e v2 hp
    obtain rfl := hp.1
    obtain ⟨F2, hs2, hF2, -, -, hv2⟩ := hp.ext1 HV1.out.1 HV1.out.2
    have HS2 := Lib.hid hs2
    have HV2 := Lib.hid (And.intro hv2 hF2)
    have HX2w := Lib.hid (HX5.out.trans hv2)
    obtain ⟨xi, hxi⟩ : ∃ xi, xi = Ra.1.1 := ⟨_, rfl⟩
    obtain ⟨xe, hxe⟩ : ∃ xe, xe = Ra.1.2 := ⟨_, rfl⟩
    rw [← hxi, ← hxe]
    clear hp hs2 hF2 hv2 e0 e1 e2 e3 HOFA
    dsimp only
    by_cases hxz : xe = 0
    case neg =>
      have hxb : (xe != 0) = true := by rw [bne_iff_ne]; exact hxz
      clear hxz hxi hxe
      have HWK := Lib.hid (wakes22_any v2 (HT.out.ext HX2w.out))
      go_wp2_with fail
      refine HWK.out.mono ?_
      rintro e wz ⟨rfl, hxz⟩
      go_wp2_with fail
      go_ret
      exact ⟨rfl, (HX2w.out).trans hxz⟩
    have HRZ := Lib.hid (show (ofS [] a).1.2 = 0 from by rw [← HRa.out, ← hxe]; exact hxz)
    obtain ⟨wa0, ca0, ra0⟩ := ofS_zero HRZ.out
    rw [← HRa.out] at ra0
    have hfa : Fine [] (termC a []) := termC_fine a InvO.nil
    have hl1 := hfa.lt ca0
    obtain ⟨L1, hL1⟩ : ∃ L1, L1 = Ra.2 := ⟨_, rfl⟩
    have e2 : L1 = (termC a []).2 := by rw [hL1, ra0]
    obtain ⟨ia, hia⟩ : ∃ ia, ia = (termC a []).1.2 := ⟨_, rfl⟩
    rw [← hia, ← e2] at hl1
    have hxi2 : xi = (ia : Int) := by rw [hxi, ra0, hia]
    have HG1 := Lib.hid (show Gd L1 from by rw [e2]; exact (termC_steps a []).good Gd.nil)
    have HL1 := Lib.hid hl1
    have HOA := Lib.hid (show (ofS [] a).1 = ((ia : Int), 0) ∧ (ofS [] a).2 = L1 from by
      have h := ra0
      rw [HRa.out] at h
      rw [h, ← hia]
      exact ⟨rfl, e2.symm⟩)
    have HS2 := Lib.hid (show SD F2 v2 sp L1 from by rw [hL1]; exact HS2.out)
    subst hxi2 hxz
    clear wa0 ca0 ra0 hfa hl1 hL1 e2 hia hxi hxe HRZ HRa
    have HLE := Lib.hid (lenS_any sp L1 v2 HS2.out.st)
    obtain ⟨n0, hn0⟩ : ∃ n0, n0 = L1.length := ⟨_, rfl⟩
    rw [← hn0] at HLE
    have HN0 := Lib.hid hn0
    have hnb : n0 ≤ 65536 := by rw [hn0]; exact HS2.out.st.inv.2.1
    clear hn0
    go_wp2_with fail
    refine HLE.out.mono ?_
    rintro e v2' ⟨rfl, rfl⟩
    clear HLE
    obtain ⟨m, hm⟩ : ∃ m, m = if n0 ≤ 3000 then n0 else 0 := ⟨_, rfl⟩
    have hm3 : m ≤ 3000 ∧ m ≤ n0 ∧ (n0 ≤ 3000 → m = n0) ∧ (¬ n0 ≤ 3000 → m = 0) := by
      rw [hm]
      split <;> (constructor <;> omega)
    clear hm
    have HM := Lib.hid hm3
    go_upto_region 8 with fail
    go_cut [11] (fun v11 wx => v11 = .slice none 0 0 ∧ v2 = wx)
    case first =>
      go_wp2_with fail
      go_meet
      exact ⟨rfl, rfl⟩
    case rest =>
    skip
    obtain ⟨rfl, rfl⟩ := hcut
    apply_assumption
    refine wp_seq_k fun _ _ => ?_
    go_cut [11] (fun v11 wx => ∃ xs : List Value, Hid (wx.ownsRow v2.heap.size 42 5 v11 m xs) ∧ Hid (WasOf L1 m xs) ∧ Hid (Ext v2 wx))
    case first =>
      go_upto_region 10 with fail
      go_loopw [11, 12] (fun u i wr => ∃ (I : Nat) (xs : List Value), I ≤ m ∧ i = .int .i64 I ∧ Hid (wr.ownsRow v2.heap.size 42 5 u I xs) ∧ Hid (WasOf L1 I xs) ∧ Hid (Ext v2 wr)) (fun _ i _ => m - (intOf i).toNat)
      case atStart => exact ⟨0, [], Nat.zero_le _, rfl, World.ownsRow_nil _ _ _ _, ⟨rfl, fun i hi => by omega⟩, Ext.refl _⟩
      case round =>
        obtain ⟨wo, rfl⟩ : ∃ wo : World, wo = wr := ⟨_, rfl⟩
        obtain ⟨I, xs, hI, rfl, hown, hwas, hx⟩ := hrel
        by_cases hI1 : I < m
        case pos =>
          have hn3 : n0 ≤ 3000 := by omega
          have hIn : I < n0 := by omega
          have hIL : I < L1.length := by rw [← HN0.out]; exact hIn
          have HSo := Lib.hid (HS2.out.ext hx.out)
          have HGE := Lib.hid (getS_any sp L1 I wo HSo.out.st (by omega))
          have HGP := Lib.hid (getP_at hIL)
          have hdn : decide ((n0 : Int) ≤ 3000) = true := decide_eq_true (by omega)
          have hdi : decide ((I : Int) < (n0 : Int)) = true := decide_eq_true (by omega)
          clear hIL hn3 hIn
          go_wp2_with fail
          refine HGE.out.mono ?_
          rintro e w6 ⟨⟨v6, rfl, hv6⟩, hx6⟩
          rw [HGP.out] at hv6 ⊢
          obtain ⟨lv, rfl, hlf⟩ := hv6
          obtain ⟨q6, k6, c6, rfl, hk6, -⟩ := id hlf
          simp only [Option.getD_some] at hk6
          simp only [Option.getD_some, Option.isSome_some]
          have HK6 := Lib.hid hk6
          obtain ⟨w7, h7⟩ : ∃ W : World, w6.alloc (.cells #[.int .i8 (nodeP L1 I).f, .int .u64 (nodeP L1 I).n, .int .i64 (nodeP L1 I).hi, .int .i64 (nodeP L1 I).lo, .slice q6 k6 c6] 42) = W := ⟨_, rfl⟩
          have x7 : Ext w6 w7 := h7 ▸ Ext.alloc _ _
          have s7 : w7.heap.size = w6.heap.size + 1 := by rw [← h7, World.size_alloc]
          obtain ⟨w8, h8⟩ : ∃ W : World, w7.alloc (.cells #[.int .i8 (nodeP L1 I).f, .int .u64 (nodeP L1 I).n, .int .i64 (nodeP L1 I).hi, .int .i64 (nodeP L1 I).lo, .slice q6 k6 c6] 42) = W := ⟨_, rfl⟩
          have x8 : Ext w7 w8 := h8 ▸ Ext.alloc _ _
          obtain ⟨d0, d1, d2, d3, d4⟩ : w7.cell? ⟨w6.heap.size, 0, none⟩ = some (.int .i8 (nodeP L1 I).f) ∧ w7.cell? ⟨w6.heap.size, 1, none⟩ = some (.int .u64 (nodeP L1 I).n) ∧ w7.cell? ⟨w6.heap.size, 2, none⟩ = some (.int .i64 (nodeP L1 I).hi) ∧ w7.cell? ⟨w6.heap.size, 3, none⟩ = some (.int .i64 (nodeP L1 I).lo) ∧ w7.cell? ⟨w6.heap.size, 4, none⟩ = some (.slice q6 k6 c6) := by rw [← h7]; exact dcell5 _ _ _ _ _ _
          have HE7 := Lib.hid h7
          have HE8 := Lib.hid h8
          have HO8 := Lib.hid (owns_ext hown.out ((hx6.trans x7).trans x8))
          have HN8 := Lib.hid (show ∀ j u, ([.int .i8 (nodeP L1 I).f, .int .u64 (nodeP L1 I).n, .int .i64 (nodeP L1 I).hi, .int .i64 (nodeP L1 I).lo, .slice q6 k6 c6] : List Value)[j]? = some u → w8.cell? ((⟨w7.heap.size, 0, none⟩ : Addr).add j) = some u from fun j u hu => by
            rw [Addr.add_mid, ← h8]
            exact rangeAt_new w7 #[.int .i8 (nodeP L1 I).f, .int .u64 (nodeP L1 I).n, .int .i64 (nodeP L1 I).hi, .int .i64 (nodeP L1 I).lo, .slice q6 k6 c6] 42 j u hu)
          have HX8 := Lib.hid ((hx.out.trans hx6).trans (x7.trans x8))
          have hsz8 := HX8.out.size
          have HWS := Lib.hid (hwas.out.snoc q6 c6)
          rw [← hk6] at HWS
          clear h7 x7 x8 s7 hx6 hlf hk6 HGE hdn hdi HE8 hwas
          subst h8
          generalize hnf : (nodeP L1 I).f = nf at *
          generalize hnn : (nodeP L1 I).n = nn at *
          generalize hnh : (nodeP L1 I).hi = nh at *
          generalize hnl : (nodeP L1 I).lo = nl at *
          have HNV := Lib.hid (And.intro hnf (And.intro hnn (And.intro hnh hnl)))
          clear hnf hnn hnh hnl
          go_upto_region 13 with fail
          rw [HE7.out]
          clear HE7
          go_wp2_with (at_builtin; refine wpList_append_E elemN rfl (.tmp 66) (.tmp 68) rfl v2.heap.size u11 _ xs rfl HO8.out (some ⟨w7.heap.size, 0, none⟩) 1 1 [.int .i8 nf, .int .u64 nn, .int .i64 nh, .int .i64 nl, .slice q6 k6 c6] rfl rfl (.inr ⟨_, rfl, HN8.out⟩) (by simp [Value.oneCell']) (by omega) (by omega) hsz8 ?_; intro v9 w9 o9 g9 t9)
          have HX9 := Lib.hid (HX8.out.grownV g9 (fun i hi => (owns_lt HO8.out i hi).1))
          have HO9 := Lib.hid o9
          clear o9 g9 t9
          go_wp2_with fail
          go_roundw
          case rel => exact ⟨I + 1, _, by omega, by go_num, HO9.out, HWS.out, HX9.out⟩
          case measure => simp [intOf]; omega
        have hIm : I = m := by omega
        subst hIm
        by_cases hn3 : n0 ≤ 3000
        · have hdi : decide ((I : Int) < (n0 : Int)) = false := decide_eq_false (by omega)
          clear hn3
          go_wp2_with fail
          all_goals (
            go_meet
            exact ⟨xs, hown, hwas, hx⟩)
        · have hdn : decide ((n0 : Int) ≤ 3000) = false := decide_eq_false (by omega)
          clear hn3
          go_wp2_with fail
          all_goals (
            go_meet
            exact ⟨xs, hown, hwas, hx⟩)
    case rest =>
    obtain ⟨xs, hown, hwas, hx⟩ := hcut
    apply_assumption
    have HOW := Lib.hid hown.out
    have HWA := Lib.hid hwas.out
    have HXC := Lib.hid hx.out
    have HSC := Lib.hid (HS2.out.ext hx.out)
    clear hown hwas hx
    have hln20 : ln ≤ 20 := by omega
    clear h20 hd
    go_upto_region 16 with fail
    go_loopw [15, 16] (fun u i wr => ∃ (I : Nat) (vs : List Value), I ≤ ln ∧ i = .int .i64 I ∧ Hid (wr.ownsRow wc.heap.size 36 1 u I vs) ∧ Hid (MadeOf wr v2.heap.size u L1 ia l I vs) ∧ Hid (Ext wc wr)) (fun _ i _ => ln - (intOf i).toNat)
    case atStart => exact ⟨0, [], Nat.zero_le _, rfl, World.ownsRow_nil _ _ _ _, (show MadeOf _ _ _ _ _ _ 0 [] from ⟨rfl, fun k h1 => by omega⟩), Ext.refl _⟩
    case round =>
      obtain ⟨wo, rfl⟩ : ∃ wo : World, wo = wr := ⟨_, rfl⟩
      obtain ⟨I, vs, hI, rfl, hown, hmade, hx⟩ := hrel
      have HSo := Lib.hid (HSC.out.ext hx.out)
      by_cases hI1 : I < ln
      case pos =>
        have hIl : I < l.length := by rw [← HLN.out]; exact hI1
        obtain ⟨lb, lo, rfl, hr⟩ : ∃ lb lo, lp = some ⟨lb, lo, none⟩ ∧ w.rangeAt lb lo (flatH l) := by
          obtain ⟨_, _, _, he, -, hor⟩ := id HHL.out
          cases he
          rcases hor with e | ⟨lb, lo, h1, -, h2⟩
          · rw [e] at hIl; simp at hIl
          · exact ⟨lb, lo, h1, h2⟩
        have hrI := rangeAt_get Hdr.len_cs hr I hIl
        obtain ⟨x, hxI⟩ : ∃ x, x = l[I] := ⟨_, rfl⟩
        rw [← hxI] at hrI
        have HR1 := Lib.hid (World.rangeAt.later (HX2w.out.trans (HXC.out.trans hx.out)).later hrI)
        have HU := Lib.hid (dRun_any sp L1 ia x wo HSo.out.st HSo.out.inv HG1.out.f (by have := HSo.out.st.inv.2.1; have := HL1.out; omega))
        unfold RunPost at HU
        rw [runH_at HL1.out] at HU
        have HMK := Lib.hid (show ∀ W u' v, MadeOf W v2.heap.size u' L1 ia l I vs → HSlx W v2.heap.size u' (runsN L1 ia x) v → MadeOf W v2.heap.size u' L1 ia l (I + 1) (vs ++ [v]) from fun W u' v h1 h2 => h1.snoc hIl (by rw [← hxI]; exact h2))
        have HMA := Lib.hid hmade.out
        clear hr hrI hxI hIl hmade
        go_wp2_with (first | (refine wpList_load_H rfl _ rfl lb (lo + I * 11) rfl x HR1.out ?_))
        refine HU.out.mono ?_
        rintro e w6 ⟨⟨uv, rfl, huv⟩, hx6⟩
        have hle6 : v2.heap.size ≤ wo.heap.size := (HXC.out.trans hx.out).size
        have HUV := Lib.hid (show HSlx w6 v2.heap.size u15 (runsN L1 ia x) uv from HSlx.of huv hle6 (fun g hg => (owns_lt hown.out g hg).2))
        obtain ⟨uq, un, uc, rfl, -⟩ := id huv
        clear huv HU hle6
        dsimp only
        have HO8 := Lib.hid (owns_ext hown.out (hx6.andAlloc (.cells #[.slice uq un uc] 36)))
        have HN8 := Lib.hid (show ∀ j u, ([.slice uq un uc] : List Value)[j]? = some u → (w6.alloc (.cells #[.slice uq un uc] 36)).cell? ((⟨w6.heap.size, 0, none⟩ : Addr).add j) = some u from fun j u hu => by
          rw [Addr.add_mid]
          exact rangeAt_new w6 #[.slice uq un uc] 36 j u hu)
        have HX8 := Lib.hid ((hx.out.trans hx6).andAlloc (.cells #[.slice uq un uc] 36))
        have hsz8 := HX8.out.size
        have HM8 := Lib.hid (HMK.out _ _ _ (HMA.out.ext (hx6.andAlloc (.cells #[.slice uq un uc] 36))) (HUV.out.ext (Ext.alloc w6 (.cells #[.slice uq un uc] 36))))
        clear hx6 hown hx
        go_wp2_with (at_builtin; refine wpList_append_E elemHs rfl (.tmp 86) (.tmp 88) rfl wc.heap.size u15 _ vs rfl HO8.out (some ⟨w6.heap.size, 0, none⟩) 1 1 [.slice uq un uc] rfl rfl (.inr ⟨_, rfl, HN8.out⟩) (by simp [Value.oneCell']) (by omega) (by omega) hsz8 ?_; intro v9 w9 o9 g9 t9)
        have z9 : Ext wc w9 := HX8.out.grownV g9 (fun i hi => (owns_lt HO8.out i hi).1)
        have HM9 := Lib.hid (HM8.out.app g9 t9)
        have HX9 := Lib.hid z9
        have HO9 := Lib.hid o9
        clear o9 g9 t9 z9
        go_wp2_with fail
        go_roundw
        case rel => exact ⟨I + 1, _, by omega, by go_num, HO9.out, HM9.out, HX9.out⟩
        case measure => simp [intOf]; omega
      have hIm : ln = I := by omega
      subst hIm
      have hlt2 := HS2.out.st.lt
      obtain ⟨-, ⟨g0, g1, g2, g3⟩⟩ := HBX.out wo (HX35.out.trans (HV2.out.1.trans (HXC.out.trans hx.out)))
      have HXWO := Lib.hid (HX2w.out.trans (HXC.out.trans hx.out))
      have HX5O := Lib.hid (HV2.out.1.trans (HXC.out.trans hx.out))
      have HOFB := Lib.hid (cof_any sp L1 b _ wo HSo.out ⟨w5, HX5O.out, HV2.out.2, HVb.out.later HX5.out.later⟩)
      obtain ⟨L2, hL2⟩ : ∃ L2, L2 = (ofS L1 b).2 := ⟨_, rfl⟩
      have HP12 := Lib.hid (show L1 <+: L2 from by rw [hL2]; exact ofS_pre HG1.out.o b)
      have HG2 := Lib.hid (show Gd L2 from by rw [hL2]; exact (ofS_steps L1 b).good HG1.out)
      obtain ⟨Rb, hRb⟩ : ∃ Rb, Rb = ofS L1 b := ⟨_, rfl⟩
      rw [← hRb] at HOFB hL2
      have HL2 := Lib.hid hL2
      have HOW2 := Lib.hid (owns_ext HOW.out hx.out)
      have HOM2 := Lib.hid hown.out
      have HMA2 := Lib.hid hmade.out
      have HLT2 := Lib.hid (show ∀ z, v2.heap.size ≤ z → ¬ F2 z from fun z hz e => by have := hlt2 z e; omega)
      have HXC2 := Lib.hid (show v2.heap.size ≤ wc.heap.size from HXC.out.size)
      clear hRb hL2 hlt2 hx hown hmade hI hI1
      go_wp2_with fail
      refine HOFB.out.mono ?_
      intro e w7 hp
      obtain rfl := hp.1
      obtain ⟨F7, hs7, hw7⟩ := hp.went
      have HW7 := Lib.hid hw7
      have HS7 := Lib.hid (show SD F7 w7 sp L2 from by rw [HL2.out]; exact hs7)
      have hx7 := hw7.ext HX5O.out HV2.out.2
      have HX7 := Lib.hid hx7
      obtain ⟨⟨e0, e1, e2, e3⟩, -⟩ := HBX.out w7 (HX35.out.trans hx7.1)
      have HOFC := Lib.hid (show Calls Tryz.prog 13 #[.pointer (some ⟨sp, 0, none⟩), .agg #[.int .i8 ao, .int .i8 af, .int .u64 an, .slice aq al ac]] w7 (DPost F7 w7 sp (((ia : Int), 0), L2)) from by
        have h := cof_any sp L2 a _ w7 HS7.out ⟨w5, hx7.1, hx7.2, HVa.out.later HX5.out.later⟩
        rw [ofS_again InvO.nil (by rw [HOA.out.1]) (by rw [HOA.out.2]; exact HP12.out) HG2.out.o, HOA.out.1] at h
        exact h)
      clear hp hs7 hw7 hx7 g0 g1 g2 g3 HOFB
      dsimp only
      go_wp2_with fail
      refine HOFC.out.mono ?_
      intro e w8 hp
      obtain rfl := hp.1
      obtain ⟨F8, hs8, hw8⟩ := hp.went
      have HW8 := Lib.hid (HW7.out.trans hw8)
      have HS8 := Lib.hid (show SD F8 w8 sp L2 from hs8)
      have HOW8 := Lib.hid (owns_keep HOW2.out HW8.out.2 (fun g hg => HLT2.out g (HOW2.out.lt g hg).1))
      have HOM8 := Lib.hid (owns_keep HOM2.out HW8.out.2 (fun g hg => HLT2.out g (by have := (HOM2.out.lt g hg).1; have := HXC2.out; omega)))
      have HMA8 := Lib.hid (HMA2.out.keep HW8.out.2 HLT2.out)
      have HXW8 := Lib.hid (show Ext w w8 from HXWO.out.andKeep HW8.out.2 (fun z hz => by have := HV2.out.2 z hz; have := HX5.out.size; omega))
      obtain ⟨pw, cw, rfl, -⟩ := owns_form HOW8.out
      obtain ⟨pm, cm, rfl, -⟩ := owns_form HOM8.out
      have HL12 := Lib.hid (show L1.length ≤ L2.length from HP12.out.length_le)
      have HLE := Lib.hid (lenS_any sp L2 w8 HS8.out.st)
      obtain ⟨n2, hn2⟩ : ∃ n2, n2 = L2.length := ⟨_, rfl⟩
      rw [← hn2] at HLE
      have HN2 := Lib.hid hn2
      have hdl : decide ((n2 : Int) < (n0 : Int)) = false := decide_eq_false (by have := HL12.out; have := HN0.out; omega)
      have hdl' : decide (n2 < n0) = false := decide_eq_false (by have := HL12.out; have := HN0.out; omega)
      clear hp hs8 hw8 e0 e1 e2 e3 hn2 HOFC
      dsimp only
      go_wp2_with fail
      refine HLE.out.mono ?_
      rintro e w8' ⟨rfl, rfl⟩
      clear HLE
      go_upto_region 25 with fail
      clear hdl hdl'
      go_loopw [21] (fun i wr => ∃ I : Nat, I ≤ m ∧ i = .int .i64 I ∧ Hid (Ext w8 wr)) (fun i _ => m - (intOf i).toNat)
      case atStart => exact ⟨0, Nat.zero_le _, rfl, Ext.refl _⟩
      case round =>
        obtain ⟨wo3, rfl⟩ : ∃ wo : World, wo = wr := ⟨_, rfl⟩
        obtain ⟨J, hJ, rfl, hx⟩ := hrel
        by_cases hJ1 : J < m
        case pos =>
          have hJL : J < L1.length := by have := HM.out; have := HN0.out; omega
          have HSo3 := Lib.hid (HS8.out.ext hx.out)
          have HGE := Lib.hid (getS_any sp L2 J wo3 HSo3.out.st (by omega))
          have HGP := Lib.hid (show getP L2 (J : Int) = some (nodeP L1 J) from by rw [getP_at (by have := HL12.out; omega), nodeP_pre HP12.out hJL])
          obtain ⟨gw, rfl⟩ : ∃ gw, pw = some ⟨gw, 0, none⟩ := by
            rcases HOW8.out.2 with ⟨e, h0⟩ | ⟨gw, _, _, e, -⟩
            · omega
            · injection e with e; exact ⟨gw, e⟩
          have HWC := Lib.hid (show ∀ W, Ext w8 W → ∃ q c, W.cell? ⟨gw, J * 5, none⟩ = some (.int .i8 (nodeP L1 J).f) ∧ W.cell? ⟨gw, J * 5 + 1, none⟩ = some (.int .u64 (nodeP L1 J).n) ∧ W.cell? ⟨gw, J * 5 + 2, none⟩ = some (.int .i64 (nodeP L1 J).hi) ∧ W.cell? ⟨gw, J * 5 + 3, none⟩ = some (.int .i64 (nodeP L1 J).lo) ∧ W.cell? ⟨gw, J * 5 + 4, none⟩ = some (.slice q (nodeP L1 J).leaf.length c) from fun W hW => by
            obtain ⟨h0, h1, h2, h3, q, c, h4⟩ := HWA.out.2 J hJ1
            refine ⟨q, c, hW.later _ _ ?_, hW.later _ _ ?_, hW.later _ _ ?_, hW.later _ _ ?_, hW.later _ _ ?_⟩
            · rw [HOW8.out.cellAt _ (by omega)]; exact h0
            · rw [HOW8.out.cellAt _ (by omega)]; exact h1
            · rw [HOW8.out.cellAt _ (by omega)]; exact h2
            · rw [HOW8.out.cellAt _ (by omega)]; exact h3
            · rw [HOW8.out.cellAt _ (by omega)]; exact h4)
          clear hJL
          go_wp2_with fail
          refine HGE.out.mono ?_
          rintro e y6 ⟨⟨v6, rfl, hv6⟩, hx6⟩
          rw [HGP.out] at hv6 ⊢
          obtain ⟨lv, rfl, hlf⟩ := hv6
          obtain ⟨q6, k6, c6, rfl, hk6, -⟩ := id hlf
          simp only [Option.getD_some] at hk6
          simp only [Option.getD_some, Option.isSome_some]
          obtain ⟨y7, h7⟩ : ∃ W : World, y6.alloc (.cells #[.int .i8 (nodeP L1 J).f, .int .u64 (nodeP L1 J).n, .int .i64 (nodeP L1 J).hi, .int .i64 (nodeP L1 J).lo, .slice q6 k6 c6] 42) = W := ⟨_, rfl⟩
          have x7 : Ext y6 y7 := h7 ▸ Ext.alloc _ _
          have xd : Ext y7 y7.drew := Ext.drew _
          obtain ⟨d0, d1, d2, d3, d4⟩ : y7.cell? ⟨y6.heap.size, 0, none⟩ = some (.int .i8 (nodeP L1 J).f) ∧ y7.cell? ⟨y6.heap.size, 1, none⟩ = some (.int .u64 (nodeP L1 J).n) ∧ y7.cell? ⟨y6.heap.size, 2, none⟩ = some (.int .i64 (nodeP L1 J).hi) ∧ y7.cell? ⟨y6.heap.size, 3, none⟩ = some (.int .i64 (nodeP L1 J).lo) ∧ y7.cell? ⟨y6.heap.size, 4, none⟩ = some (.slice q6 k6 c6) := by rw [← h7]; exact dcell5 _ _ _ _ _ _
          obtain ⟨qw, cqw, b0, b1, b2, b3, b4⟩ := HWC.out y7.drew ((hx.out.trans hx6).trans (x7.trans xd))
          rw [← hk6] at b4
          have HXD := Lib.hid ((hx.out.trans hx6).trans (x7.trans xd))
          have HE7 := Lib.hid h7
          generalize (nodeP L1 J).f = nf at *
          generalize (nodeP L1 J).n = nn at *
          generalize (nodeP L1 J).hi = nh at *
          generalize (nodeP L1 J).lo = nl at *
          have hS0 : (fun W : World => W.cell? ⟨y6.heap.size, 0, none⟩ = some (.int .i8 nf) ∧ W.cell? ⟨y6.heap.size, 1, none⟩ = some (.int .u64 nn) ∧ W.cell? ⟨y6.heap.size, 2, none⟩ = some (.int .i64 nh) ∧ W.cell? ⟨y6.heap.size, 3, none⟩ = some (.int .i64 nl) ∧ W.cell? ⟨y6.heap.size, 4, none⟩ = some (.slice q6 k6 c6) ∧ W.cell? ⟨gw, J * 5, none⟩ = some (.int .i8 nf) ∧ W.cell? ⟨gw, J * 5 + 1, none⟩ = some (.int .u64 nn) ∧ W.cell? ⟨gw, J * 5 + 2, none⟩ = some (.int .i64 nh) ∧ W.cell? ⟨gw, J * 5 + 3, none⟩ = some (.int .i64 nl) ∧ W.cell? ⟨gw, J * 5 + 4, none⟩ = some (.slice qw k6 cqw)) y7.drew := ⟨xd.later _ _ d0, xd.later _ _ d1, xd.later _ _ d2, xd.later _ _ d3, xd.later _ _ d4, b0, b1, b2, b3, b4⟩
          clear h7 x7 xd hx6 hlf hk6 HGE HWC b0 b1 b2 b3 b4 d0 d1 d2 d3 d4 hx
          go_upto_region 28 with fail
          try rw [HE7.out]
          clear HE7
          as_aux_lemma =>
            refine wp_region_held_drew (S := (fun W : World => W.cell? ⟨y6.heap.size, 0, none⟩ = some (.int .i8 nf) ∧ W.cell? ⟨y6.heap.size, 1, none⟩ = some (.int .u64 nn) ∧ W.cell? ⟨y6.heap.size, 2, none⟩ = some (.int .i64 nh) ∧ W.cell? ⟨y6.heap.size, 3, none⟩ = some (.int .i64 nl) ∧ W.cell? ⟨y6.heap.size, 4, none⟩ = some (.slice q6 k6 c6) ∧ W.cell? ⟨gw, J * 5, none⟩ = some (.int .i8 nf) ∧ W.cell? ⟨gw, J * 5 + 1, none⟩ = some (.int .u64 nn) ∧ W.cell? ⟨gw, J * 5 + 2, none⟩ = some (.int .i64 nh) ∧ W.cell? ⟨gw, J * 5 + 3, none⟩ = some (.int .i64 nl) ∧ W.cell? ⟨gw, J * 5 + 4, none⟩ = some (.slice qw k6 cqw))) (by kernel_rfl) (hS0) (fun hHeld => ?_)
            refine tk 0 (.bool true) ?_
            try simp only [tkN]
            refine tk 1 (.bool false) ?_
            try simp only [tkN]
            refine tk 2 (.bool false) ?_
            try simp only [tkN]
            refine tk 3 (.pointer (some ⟨y6.heap.size, 0, none⟩)) ?_
            try simp only [tkN]
            refine tk 4 (.int .i8 nf) ?_
            try simp only [tkN]
            refine tk 5 (.slice (some ⟨gw, 0, none⟩) m cw) ?_
            try simp only [tkN]
            refine tk 6 (.int .i64 J) ?_
            try simp only [tkN]
            refine tk 7 (.pointer (some ⟨gw, J * 5, none⟩)) ?_
            try simp only [tkN]
            refine tk 8 (.pointer (some ⟨gw, J * 5, none⟩)) ?_
            try simp only [tkN]
            refine tk 9 (.int .i8 nf) ?_
            try simp only [tkN]
            refine tk 10 (.bool false) ?_
            try simp only [tkN]
            refine tk 11 (.bool false) ?_
            try simp only [tkN]
            refine tk 12 (.bool false) ?_
            try simp only [tkN]
            refine tk 13 (.pointer (some ⟨y6.heap.size, 1, none⟩)) ?_
            try simp only [tkN]
            refine tk 14 (.int .u64 nn) ?_
            try simp only [tkN]
            refine tk 15 (.slice (some ⟨gw, 0, none⟩) m cw) ?_
            try simp only [tkN]
            refine tk 16 (.int .i64 J) ?_
            try simp only [tkN]
            refine tk 17 (.pointer (some ⟨gw, J * 5, none⟩)) ?_
            try simp only [tkN]
            refine tk 18 (.pointer (some ⟨gw, J * 5 + 1, none⟩)) ?_
            try simp only [tkN]
            refine tk 19 (.int .u64 nn) ?_
            try simp only [tkN]
            refine tk 20 (.bool false) ?_
            try simp only [tkN]
            refine tk 21 (.bool false) ?_
            try simp only [tkN]
            refine tk 22 (.bool false) ?_
            try simp only [tkN]
            refine tk 23 (.pointer (some ⟨y6.heap.size, 2, none⟩)) ?_
            try simp only [tkN]
            refine tk 24 (.int .i64 nh) ?_
            try simp only [tkN]
            refine tk 25 (.slice (some ⟨gw, 0, none⟩) m cw) ?_
            try simp only [tkN]
            refine tk 26 (.int .i64 J) ?_
            try simp only [tkN]
            refine tk 27 (.pointer (some ⟨gw, J * 5, none⟩)) ?_
            try simp only [tkN]
            refine tk 28 (.pointer (some ⟨gw, J * 5 + 2, none⟩)) ?_
            try simp only [tkN]
            refine tk 29 (.int .i64 nh) ?_
            try simp only [tkN]
            refine tk 30 (.bool false) ?_
            try simp only [tkN]
            refine tk 31 (.bool false) ?_
            try simp only [tkN]
            refine tk 32 (.bool false) ?_
            try simp only [tkN]
            refine tk 33 (.pointer (some ⟨y6.heap.size, 3, none⟩)) ?_
            try simp only [tkN]
            refine tk 34 (.int .i64 nl) ?_
            try simp only [tkN]
            refine tk 35 (.slice (some ⟨gw, 0, none⟩) m cw) ?_
            try simp only [tkN]
            refine tk 36 (.int .i64 J) ?_
            try simp only [tkN]
            refine tk 37 (.pointer (some ⟨gw, J * 5, none⟩)) ?_
            try simp only [tkN]
            refine tk 38 (.pointer (some ⟨gw, J * 5 + 3, none⟩)) ?_
            try simp only [tkN]
            refine tk 39 (.int .i64 nl) ?_
            try simp only [tkN]
            refine tk 40 (.bool false) ?_
            try simp only [tkN]
            refine tk 41 (.bool false) ?_
            try simp only [tkN]
            refine tk 42 (.bool false) ?_
            try simp only [tkN]
            refine tk 43 (.pointer (some ⟨y6.heap.size, 4, none⟩)) ?_
            try simp only [tkN]
            refine tk 44 (.slice q6 k6 c6) ?_
            try simp only [tkN]
            refine tk 45 (.int .i64 k6) ?_
            try simp only [tkN]
            refine tk 46 (.slice (some ⟨gw, 0, none⟩) m cw) ?_
            try simp only [tkN]
            refine tk 47 (.int .i64 J) ?_
            try simp only [tkN]
            refine tk 48 (.pointer (some ⟨gw, J * 5, none⟩)) ?_
            try simp only [tkN]
            refine tk 49 (.pointer (some ⟨gw, J * 5 + 4, none⟩)) ?_
            try simp only [tkN]
            refine tk 50 (.slice qw k6 cqw) ?_
            try simp only [tkN]
            refine tk 51 (.int .i64 k6) ?_
            try simp only [tkN]
            refine tk 52 (.bool false) ?_
            try simp only [tkN]
            refine tk 53 (.bool false) ?_
            try simp only [tkN]
            refine wpAnyH_done (by kernel_rfl) ?_ _
            go_wp2_with fail
            go_roundw
            case rel => exact ⟨J + 1, by omega, by go_num, HXD.out⟩
            case measure => simp [intOf]; omega
        have HXL := Lib.hid hx.out
        clear hx
        go_upto_region 31 with fail
        clear hJ hJ1
        go_loopw [24] (fun i wr => ∃ I : Nat, I ≤ ln ∧ i = .int .i64 I ∧ Hid (Ext w8 wr)) (fun i _ => ln - (intOf i).toNat)
        case atStart => exact ⟨0, Nat.zero_le _, rfl, HXL.out⟩
        case round =>
          obtain ⟨wo4, rfl⟩ : ∃ wo : World, wo = wr := ⟨_, rfl⟩
          obtain ⟨K, hK, rfl, hx⟩ := hrel
          have HXA := Lib.hid hx.out
          have HXB := Lib.hid (HXW8.out.trans hx.out)
          clear hx
          by_cases hK1 : K < ln
          case neg =>
            have HWK := Lib.hid (wakes22_any wo4 (HT.out.ext HXB.out))
            go_wp2_with fail
            refine HWK.out.mono ?_
            rintro e wz ⟨rfl, hxz⟩
            go_wp2_with fail
            go_ret
            exact ⟨rfl, (HXB.out).trans hxz⟩
          have hKl : K < l.length := by rw [← HLN.out]; exact hK1
          obtain ⟨lb, lo, rfl, hr⟩ : ∃ lb lo, lp = some ⟨lb, lo, none⟩ ∧ w.rangeAt lb lo (flatH l) := by
            obtain ⟨_, _, _, he, -, hor⟩ := id HHL.out
            cases he
            rcases hor with e | ⟨lb, lo, h1, -, h2⟩
            · rw [e] at hKl; simp at hKl
            · exact ⟨lb, lo, h1, h2⟩
          have hrI := rangeAt_get Hdr.len_cs hr K hKl
          have hkv : K < vs.length := by rw [HMA8.out.1]; exact hK1
          have hmk := HMA8.out.2 K hK1 hKl hkv
          obtain ⟨x, hxI⟩ : ∃ x, x = l[K] := ⟨_, rfl⟩
          rw [← hxI] at hrI hmk
          have HRX := Lib.hid (show ∀ W, Ext w W → W.rangeAt lb (lo + K * 11) x.cs.toList from fun W hW => World.rangeAt.later hW.later hrI)
          obtain ⟨mq, mn, mc, hmv, -⟩ := id hmk
          obtain ⟨gm, rfl⟩ : ∃ gm, pm = some ⟨gm, 0, none⟩ := by
            rcases HOM8.out.2 with ⟨e, h0⟩ | ⟨gm, _, _, e, -⟩
            · omega
            · injection e with e; exact ⟨gm, e⟩
          have hcell : w8.cell? ⟨gm, K, none⟩ = some (.slice mq mn mc) := by
            rw [HOM8.out.cellAt _ (by omega), List.getElem?_eq_getElem hkv, hmv]
          have HCM := Lib.hid (show ∀ W, Ext w8 W → W.cell? ⟨gm, K, none⟩ = some (.slice mq mn mc) from fun W hW => hW.later _ _ hcell)
          have HMS := Lib.hid (show ∀ W, Ext w8 W → HSl W v2.heap.size (runsN L1 ia x) (.slice mq mn mc) from fun W hW => by
            have h := (hmk.ext hW).hsl
            rw [hmv] at h
            exact h)
          have HEQR := Lib.hid (runsN_pre HG1.out.o HP12.out HL1.out x)
          have HLI := Lib.hid (show ia < L2.length from Nat.lt_of_lt_of_le HL1.out HP12.out.length_le)
          have HRUN := Lib.hid (show ∀ W, Ext w8 W → Calls Tryz.prog 17 #[.pointer (some ⟨sp, 0, none⟩), .int .i64 ia, .agg x.cs] W (fun e w' => (∃ v, e = .returned (.tuple #[v, .int .i64 0]) ∧ HSl w' W.heap.size (runsN L1 ia x) v) ∧ Ext W w') from fun W hW => by
            have hs := HS8.out.ext hW
            have HU := dRun_any sp L2 ia x W hs.st hs.inv HG2.out.f (by have := hs.st.inv.2.1; have := HLI.out; omega)
            unfold RunPost at HU
            rw [runH_at HLI.out] at HU
            dsimp only at HU
            rw [HEQR.out] at HU
            exact HU)
          have HHD := Lib.hid (show ∀ W u lo, Ext w8 W → HSl W lo (runsN L1 ia x) u → Calls Tryz.prog 18 #[u, .slice mq mn mc] W fun e w' => e = .returned (.bool true) ∧ Ext W w' from fun W u lo hW hu => by
            have h := heads_any (runsN L1 ia x) (runsN L1 ia x) u _ lo _ W hu (HMS.out W hW) (by have := runsN_len (h := x) HG1.out HL1.out; omega)
            rw [decide_eq_true rfl] at h
            exact h)
          clear hKl hr hrI hkv hmk hxI hmv hcell HOW8 HOM8 HMA8
          as_aux_lemma =>
            have HR1 := Lib.hid (HRX.out wo4 HXB.out)
            have HU := Lib.hid (HRUN.out wo4 HXA.out)
            go_wp2_with (first | (refine wpList_load_H rfl _ rfl lb (lo + K * 11) rfl x HR1.out ?_))
            refine HU.out.mono ?_
            rintro e y2 ⟨⟨uv, rfl, huv⟩, hxy2⟩
            have HY2 := Lib.hid (HXA.out.trans hxy2)
            have HV := Lib.hid (HHD.out y2 uv _ HY2.out huv)
            have hc2 := HCM.out y2 HY2.out
            obtain ⟨uq, un, uc, rfl, -⟩ := id huv
            clear huv hxy2 HU
            dsimp only
            go_wp2_with fail
            refine HV.out.mono ?_
            rintro e y3 ⟨rfl, hxy3⟩
            have HY3 := Lib.hid (HY2.out.trans hxy3)
            have HR3 := Lib.hid (HRX.out y3 (HXW8.out.trans HY3.out))
            have HU := Lib.hid (HRUN.out y3 HY3.out)
            clear hxy3 hc2 HV
            dsimp only
            go_wp2_with (first | (refine wpList_load_H rfl _ rfl lb (lo + K * 11) rfl x HR3.out ?_))
            refine HU.out.mono ?_
            rintro e y4 ⟨⟨uv, rfl, huv⟩, hxy4⟩
            have HY4 := Lib.hid (HY3.out.trans hxy4)
            have HV := Lib.hid (HHD.out y4 uv _ HY4.out huv)
            have hc4 := HCM.out y4 HY4.out
            obtain ⟨uq, un, uc, rfl, -⟩ := id huv
            clear huv hxy4 HU
            dsimp only
            go_wp2_with fail
            refine HV.out.mono ?_
            rintro e y5 ⟨rfl, hxy5⟩
            have HY5 := Lib.hid (HY4.out.trans hxy5)
            clear hxy5 hc4 HV
            dsimp only
            go_wp2_with fail
            go_roundw
            case rel => exact ⟨K + 1, by omega, by go_num, HY5.out⟩
            case measure => simp [intOf]; omega

end Go.Proofs.YtjjbdbklbghlhaaGreatDoor
/- CompileKeeps returns true for every input, and each argument reads behind the call as before it. Conditions: the tables as laid. -/
namespace Go.Proofs.YtjjbdbklbghlhaaGreatDoor
open Go.ChangeShapes Go.WideShapes Go.ChangeAt Go.RowKit
set_option linter.unusedSimpArgs false

set_option maxRecDepth 100000 in
theorem compileKeeps_lifted (os : Os) (started : os.Started) (H : Type) (enc : TypeId × Value → H) :
    ReturnsInHanded {} Tryz.checked os 5 .any (fun w args => (Rows.compileKeepsSpec.pre enc Tryz.prog Tryz.f5 Rows.compileKeepsRow.domain false w args ∧ laidMet Tryz.prog laid20 w) ∧ sizedMet enc Tryz.prog Tryz.f5 (OpenSpec.ofChange Rows.compileKeepsSpec) false w args) (Rows.compileKeepsSpec.post enc Tryz.prog Tryz.f5 false true false false) := by
  refine returnsInHanded_of_change_and (C := Tryz.checked) (X := fun w _ => laidMet Tryz.prog laid20 w) (fun _ _ _ hh h => h.of_heap hh) ownL started (by kernel_rfl) Tryz.func5
    (ChangeSpec.witness_at (enc := enc) (C := Tryz.checked) (os := os) (X := fun w _ => laidMet Tryz.prog laid20 w) false (laidWorld os) #[.agg #[.int .i8 0, .int .i8 0, .int .u64 0, .slice none 0 0], .agg #[.int .i8 0, .int .i8 0, .int .u64 0, .slice none 0 0], .slice none 0 0] 8 rfl (by kernel_rfl) (by kernel_rfl) (by kernel_rfl) (by kernel_rfl) (by kernel_rfl) (laid_met os _)) ?_
  intro W base args ds gs before hval0 hW hcnd hwt hL _
  have hval : ∀ (j : Nat) t v, Tryz.f5.params[j]? = some t → args[j]? = some v → Value.okWide Tryz.prog W .any base t v := hval0
  have hW' := hW
  obtain ⟨p, q, hA0, hV, rfl, hfz, hnd⟩ := hW
  have hA : DataW.TrodAll enc Tryz.prog W 0 (fun _ => true) true Tryz.f5.params.toList args.toList ds p := hA0
  rw [Tryz.params5] at hA hval
  obtain ⟨v0, v1, v2, d0, d1, d2, p0, p1, p2, rfl, rfl, rfl, h0, h1, h2⟩ := trodAll_three hA
  obtain ⟨rfl, rfl⟩ := trodVars_none hV
  obtain ⟨x0, w0⟩ := term_val (hval 0 26 v0 rfl rfl) h0
  obtain ⟨x1, w1⟩ := term_val (hval 1 26 v1 rfl rfl) h1
  obtain ⟨l2, w2⟩ := hdrs_val (hval 2 36 v2 rfl rfl) h2
  have hlt : ∀ y ∈ p0 ++ (p1 ++ p2), y.block < W.heap.size := fun y hy => hW'.lt y (by simpa using hy)
  simp only [List.append_nil, List.append_assoc] at hW'
  refine (lawCKeeps_any x0 x1 l2 v0 v1 v2 W w0 w1 w2 (tb_of_laid hL)).mono fun e W' ⟨he, hw⟩ => ?_
  subst he
  have hb : Below W.heap.size W W' := hw
  exact ⟨_, rfl, post_below (pa := p0 ++ (p1 ++ p2)) (pv := []) hW' (fun _ _ _ => trodAll_mk1 (shut_bool Tryz.underlying4 true))
    (fun sp hsp => trodAll_mk3 (stays_T sp h0 hb (fun y hy => hlt y (List.mem_append_left _ hy)) (fun y hy => hsp y (List.mem_append_left _ hy))) (stays_T sp h1 hb (fun y hy => hlt y (List.mem_append_right _ (List.mem_append_left _ hy))) (fun y hy => hsp y (List.mem_append_right _ (List.mem_append_left _ hy)))) (stays_Hs sp h2 hb (fun y hy => hlt y (List.mem_append_right _ (List.mem_append_right _ hy))) (fun y hy => hsp y (List.mem_append_right _ (List.mem_append_right _ hy)))))
    (fun _ _ => rfl) (by simp) hb (ok_one (by kernel_rfl) rfl (okWide_bool_mk Tryz.underlying4 true))⟩

theorem CompileKeeps_holds : Rows.CompileKeepsSaid :=
  OpenClaim.holds_of_wide 5 Tryz.f5 rfl rfl rfl rfl rfl rfl rfl ⟨rfl, rfl, rfl, rfl, rfl⟩ rfl rfl rfl rfl rfl (by kernel_rfl) Tryz.func5 (by kernel_rfl)
    (of_decide_eq_true (by kernel_rfl)) (by unfold Func.isWrapper; first | (rw [if_pos (by decide +kernel)]; kernel_rfl) | (rw [if_neg (by decide +kernel)]; exact ⟨rfl, rfl⟩))
    (fun os started H enc _ => compileKeeps_lifted os started H enc)
#print axioms CompileKeeps_holds
end Go.Proofs.YtjjbdbklbghlhaaGreatDoor
/- The tied card of CompileKeeps. -/
namespace Go.Proofs.YtjjbdbklbghlhaaGreatDoor
open Go
set_option linter.unusedSimpArgs false
theorem CompileKeeps_card : Rows.CompileKeepsCardSaid :=
  Claim7.holds_tied_plain_at .later [] [.data, .data, .data] true (true, "897f12f2e920dbc4282a1e707cc9a5a53cb8e2ee45049fbcb54b6b014209edab") true
    CompileKeeps_holds (fun _ h => by cases h) (by kernel_rfl) (fun _ h => by cases h) compileKeeps_row_tie rfl ⟨rfl, rfl⟩ (by kernel_rfl) rfl
    (fun f fn hf hfn => by
      obtain rfl : f = 5 := Option.some.inj ((show Tryz.prog.funcNamed "tollbridge/tollbridgelaw22.CompileKeeps" = some 5 by kernel_rfl).symm.trans hf) |>.symm
      obtain rfl : fn = Tryz.f5 := (Option.some.inj (Tryz.func5.symm.trans hfn)).symm
      exact ⟨by kernel_rfl, fun j t ht => by
        rw [Tryz.params5] at ht
        have hm : t ∈ ([26, 26, 36] : List TypeId) := by simpa using Array.mem_of_getElem? ht
        have hall : (([26, 26, 36] : List TypeId).all fun u => !Tryz.prog.wantsStandIn u) = true := by kernel_rfl
        exact (show Tryz.prog.wantsStandIn t = false by simpa using List.all_eq_true.1 hall t hm)⟩)
    (by kernel_rfl)
#print axioms CompileKeeps_card
end Go.Proofs.YtjjbdbklbghlhaaGreatDoor

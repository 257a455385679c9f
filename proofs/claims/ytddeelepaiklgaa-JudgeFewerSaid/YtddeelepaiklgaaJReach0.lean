/- What judge.Reach goes through, in plain words; its three rows apart from each other. -/
import Derived.Test.YtddeelepaiklgaaJRising
import Derived.Maps.AppendAt
namespace Go.Proofs.Ytddeelepaiklgaa
open Go.RowKit Go.Maps Go.Sort Go.Lib

/-- one header that a hop made -/
def moveTo (x : Hdr) (a b : Int) : Hdr := (x.put 10 a).put 9 b
def stepX (wires : List WireD) (x : Hdr) (thr out : List Hdr) : Option (List Hdr × List Hdr) :=
  if headE x = 0 then
    match overP (IntKind.u16.wrap (x.f 10)) (IntKind.u16.wrap (x.f 9)) wires with
    | none => some (thr, out ++ [x])
    | some r => if moveTo x r.1 r.2 ∈ thr then some (thr, out) else if thr.length = 1024 then none else some (thr ++ [moveTo x r.1 r.2], out)
  else some (thr, out)
def foldX (wires : List WireD) : List Hdr → List Hdr → List Hdr → Option (List Hdr × List Hdr)
  | [], thr, out => some (thr, out)
  | x :: xs, thr, out => (stepX wires x thr out).bind fun r => foldX wires xs r.1 r.2
def reachN (t : Tm) (wires : List WireD) : Nat → Nat → List Hdr → List Hdr → Int × List Hdr
  | 0, _, _, out => (0, out)
  | n + 1, i, thr, out =>
    match thr[i]? with
    | none => (0, out)
    | some y => if (ofC t y).1 = 0 then (match foldX wires (ofC t y).2 thr out with | none => (200, []) | some r => reachN t wires n (i + 1) r.1 r.2) else ((ofC t y).1, [])
def reachP (t : Tm) (qs : List Qr) (wires : List WireD) (x : Hdr) : Int × List Hdr :=
  if checkP t qs = 0 then
    (if headE x = 0 ∧ x.f 3 = 0 then
      (if (reachN t wires 1025 0 [x] []).1 = 0 then (0, dd (sortH (reachN t wires 1025 0 [x] []).2)) else ((reachN t wires 1025 0 [x] []).1, []))
    else (10, []))
  else (checkP t qs, [])

theorem wpList_append_H_at {ops : Array Oper} {rest : List Oper} {o : Oper} {a : Act} {w : World} {Q : Exit → Act → World → Prop} (hgd : o.guard = none) (s x : Operand)
    (ho : o.op = .call { callee := .builtin .append, args := #[s, x], argTypes := #[25, 25] }) (base : Nat) (v : Value) (l : List Hdr) (hs : a.eval s = v) (hown : w.ownsRow base 24 11 v l.length (flatH l))
    (b : Nat) (y : Hdr) (hx : a.eval x = .slice (some ⟨b, 0, none⟩) 1 1) (hc : w.rangeAt b 0 y.cs.toList) (hlen : l.length < 1000000000) (hbase : base ≤ w.heap.size)
    (hK : ∀ v' w', w'.ownsRow base 24 11 v' (l ++ [y]).length (flatH (l ++ [y])) → w.grownBy w' v.ownBlock → (v'.ownBlock = v.ownBlock ∨ v'.ownBlock = some w.heap.size) → wpList Try.prog ops Q rest (a.put o.dst v') w') : wpList Try.prog ops Q (o :: rest) a w := by
  obtain ⟨i0, hi0, hz0, hz1, hz2⟩ := info_parts infoH
  refine wpList_append_own_at w hgd s x 25 ho base 24 i0 _ 11 88 Try.underlying25 hi0 hz0 hz1 hz2 rfl (by omega) v l.length (flatH l) hs hown ⟨b, 0, none⟩ 1 1 y.cs.toList hx (by rw [y.len_cs])
    (fun j u hu => by rw [Addr.add_mid]; exact hc j u hu) y.one (by unfold maxLen; omega) (by omega) hbase ?_
  intro v' w' hown' hg _ hat
  refine hK v' w' ?_ hg hat
  have e : flatH (l ++ [y]) = flatH l ++ y.cs.toList := by simp [flatH]
  rw [e, List.length_append]
  exact hown'

/-- the headers seen, how often: at most N times -/
def SeenIs (w : World) (b : Nat) (ks : List Hdr) (N : Int) : Prop :=
  ∃ L : List (Hdr × Int), MapOf w kvH vvZ b L ∧ (L.map (·.1)).Nodup ∧ (∀ y, y ∈ ks → ∃ c, look y L = some c ∧ 1 ≤ c ∧ c ≤ N) ∧ ∀ y, y ∉ ks → look y L = none
theorem SeenIs.kept {w w' : World} {b : Nat} {ks : List Hdr} {N : Int} (h : SeenIs w b ks N) (hk : w'.heap[b]? = w.heap[b]?) : SeenIs w' b ks N := by
  obtain ⟨L, h1, h2⟩ := h
  exact ⟨L, MapRaw.kept h1 hk, h2⟩
theorem SeenIs.lt {w : World} {b : Nat} {ks : List Hdr} {N : Int} (h : SeenIs w b ks N) : b < w.heap.size := by
  obtain ⟨L, h1, -⟩ := h
  exact MapRaw.lt h1
theorem SeenIs.ext {w w' : World} {b : Nat} {ks : List Hdr} {N : Int} (h : SeenIs w b ks N) (hx : Ext w w') : SeenIs w' b ks N := h.kept (Below.block hx b h.lt)
theorem SeenIs.first (w : World) (x : Hdr) : ∃ w', (Instr.mapUpdate 61 (.map (some w.heap.size)) (.agg x.cs) (.int .i64 1)).run Try.prog (w.alloc (.map #[] 0)) = .ok () w' ∧ SeenIs w' w.heap.size [x] 1 ∧ (w.alloc (.map #[] 0)).grownBy w' (some w.heap.size) := by
  obtain ⟨w', hu, hm, hg⟩ := run_update_of (kv := kvH) (vv := vvZ) codedH Try.underlying61 (w := w.alloc (.map #[] 0)) (b := w.heap.size) (l := []) (MapRaw.made w) (by simp) x (1 : Int)
  refine ⟨w', hu, ⟨_, hm, by simp [store], fun y hy => ?_, fun y hy => ?_⟩, hg⟩
  · rw [List.mem_singleton] at hy
    subst hy
    exact ⟨1, look_store _ _ _, by omega, by omega⟩
  · rw [List.mem_singleton] at hy
    rw [look_other _ hy]; rfl
theorem SeenIs.bump {w : World} {b : Nat} {ks : List Hdr} {N : Int} (h : SeenIs w b ks N) (hN : 0 ≤ N) (x : Hdr) :
    ∃ (n : Int) (st : Nat) (w1 w2 : World), (x ∈ ks → 1 ≤ n) ∧ (x ∉ ks → n = 0) ∧ 0 ≤ n ∧ n ≤ N ∧ (Instr.lookup 61 (.map (some b)) (.agg x.cs) false).run Try.prog w = .ok (.int .i64 n) w ∧
      (Instr.mapEntry 61 (.map (some b)) (.agg x.cs)).run Try.prog w = .ok (.tuple #[.int .i64 n, .int .i64 st]) w1 ∧
      (Instr.lookup 61 (.map (some b)) (.agg x.cs) false).run Try.prog w1 = .ok (.int .i64 n) w1 ∧
      (Instr.entryStore 61 (.map (some b)) (.int .i64 st) (.int .i64 (n + 1))).run Try.prog w1 = .ok () w2 ∧
      w.grownBy w2 (some b) ∧ SeenIs w2 b (if x ∈ ks then ks else ks ++ [x]) (N + 1) ∧
      ∀ W, Ext w2 W → (Instr.lookup 61 (.map (some b)) (.agg x.cs) false).run Try.prog W = .ok (.int .i64 (n + 1)) W := by
  obtain ⟨L, h1, h2, h3, h4⟩ := h
  obtain ⟨st, w1, he, ⟨L1, hm1, hn1, hl1⟩, hg1, hs⟩ := run_entry_of codedH Try.underlying61 h1 h2 x (0 : Int) zeroI
  obtain ⟨n, hn⟩ : ∃ n, n = (look x L).getD 0 := ⟨_, rfl⟩
  obtain ⟨w2, he2, hm2, hg2⟩ := hs (n + 1)
  have q : ∀ {W : World} {M : List (Hdr × Int)}, MapOf W kvH vvZ b M → (M.map (·.1)).Nodup → (Instr.lookup 61 (.map (some b)) (.agg x.cs) false).run Try.prog W = .ok (.int .i64 ((look x M).getD 0)) W := fun {W M} hM hN => by
    have := run_lookup_of codedH Try.underlying61 hM hN x _ (zeroI W) false
    cases hq : look x M <;> (rw [hq] at this; exact this)
  have hin : x ∈ ks → ∃ c, look x L = some c ∧ 1 ≤ c ∧ c ≤ N := h3 x
  have hnb : (x ∈ ks → 1 ≤ n) ∧ (x ∉ ks → n = 0) ∧ 0 ≤ n ∧ n ≤ N := by
    by_cases hx : x ∈ ks
    · obtain ⟨c, hc, hc1, hc2⟩ := hin hx
      rw [hc] at hn
      have hn' : n = c := hn
      exact ⟨fun _ => by omega, fun h => absurd hx h, by omega, by omega⟩
    · rw [h4 x hx] at hn
      have hn' : n = 0 := hn
      exact ⟨fun h => absurd h hx, fun _ => hn', by omega, by omega⟩
  refine ⟨n, st, w1, w2, hnb.1, hnb.2.1, hnb.2.2.1, hnb.2.2.2, ?_, ?_, ?_, he2, hg2, ⟨_, hm2, store_keys h2, fun y hy => ?_, fun y hy => ?_⟩, fun W hW => ?_⟩
  · rw [q h1 h2, ← hn]
  · rw [← hn] at he; exact he
  · rw [q hm1 hn1, hl1, ← hn]
  · by_cases hyx : y = x
    · subst hyx
      exact ⟨n + 1, look_store _ _ _, by omega, by omega⟩
    · have hy2 : y ∈ ks := by
        split at hy
        · exact hy
        · rcases List.mem_append.1 hy with h | h
          · exact h
          · exact absurd (List.mem_singleton.1 h) hyx
      obtain ⟨c, hc, hc1, hc2⟩ := h3 y hy2
      exact ⟨c, by rw [look_other _ hyx]; exact hc, hc1, by omega⟩
  · by_cases hyx : y = x
    · subst hyx
      exfalso
      split at hy
      · exact absurd (by assumption) hy
      · exact hy (List.mem_append_right _ (List.mem_singleton.2 rfl))
    · rw [look_other _ hyx]
      refine h4 y fun h => hy ?_
      split
      · exact h
      · exact List.mem_append_left _ h
  · rw [q (MapRaw.ext hm2 hW : MapOf W kvH vvZ b _) (store_keys h2), look_store]; rfl

/-- the rows of what is gone through and of what came out, the map of what was seen: apart -/
structure RSt (wB wr : World) (mb : Nat) (tv ov : Value) (thr ks out : List Hdr) (N : Int) : Prop where
  t : wr.ownsRow wB.heap.size 24 11 tv thr.length (flatH thr)
  o : wr.ownsRow wB.heap.size 24 11 ov out.length (flatH out)
  m : SeenIs wr mb ks N
  tm : tv.ownBlock ≠ some mb
  om : ov.ownBlock ≠ some mb
  ap : ∀ i, tv.ownBlock = some i → ov.ownBlock ≠ some i
  lo : wB.heap.size ≤ mb
  ext : Ext wB wr
theorem ownsRow_ext {w w' : World} {base : Nat} {e : TypeId} {size : Nat} {v : Value} {n : Nat} {xs : List Value} (h : w.ownsRow base e size v n xs) (hx : Ext w w') : w'.ownsRow base e size v n xs :=
  (hx.keep fun _ => False).owns h (fun _ _ h => h)
theorem RSt.more {wB wr W : World} {mb : Nat} {tv ov : Value} {thr ks out : List Hdr} {N : Int} (h : RSt wB wr mb tv ov thr ks out N) (hx : Ext wr W) : RSt wB W mb tv ov thr ks out N :=
  ⟨ownsRow_ext h.t hx, ownsRow_ext h.o hx, h.m.ext hx, h.tm, h.om, h.ap, h.lo, h.ext.trans hx⟩
theorem none_or {v : Value} {r : Option Nat} (h : ∀ i, v.ownBlock = some i → r ≠ some i) : v.ownBlock = none ∨ v.ownBlock ≠ r := by
  cases hv : v.ownBlock with
  | none => exact .inl rfl
  | some i => exact .inr (fun e => h i hv e.symm)
theorem RSt.putOut {wB wr w' : World} {mb : Nat} {tv ov ov' : Value} {thr ks out : List Hdr} {N : Int} {x : Hdr} (h : RSt wB wr mb tv ov thr ks out N)
    (hown : w'.ownsRow wB.heap.size 24 11 ov' (out ++ [x]).length (flatH (out ++ [x]))) (hg : wr.grownBy w' ov.ownBlock) (hat : ov'.ownBlock = ov.ownBlock ∨ ov'.ownBlock = some wr.heap.size) : RSt wB w' mb tv ov' thr ks (out ++ [x]) N where
  t := h.t.kept hg (none_or h.ap)
  o := hown
  m := h.m.kept (hg.block mb h.m.lt (fun e => h.om e.symm))
  tm := h.tm
  om := by
    rcases hat with e | e
    · rw [e]; exact h.om
    · rw [e]; intro e2; have := h.m.lt; injection e2 with e2; omega
  ap := fun i hi => by
    rcases hat with e | e
    · rw [e]; exact h.ap i hi
    · rw [e]; intro e2; have := (h.t.lt i hi).2; injection e2 with e2; omega
  lo := h.lo
  ext := h.ext.grow' hg (fun i hi => (h.o.lt i hi).1)
theorem RSt.putThr {wB wr w' : World} {mb : Nat} {tv tv' ov : Value} {thr ks out : List Hdr} {N : Int} {x : Hdr} (h : RSt wB wr mb tv ov thr ks out N)
    (hown : w'.ownsRow wB.heap.size 24 11 tv' (thr ++ [x]).length (flatH (thr ++ [x]))) (hg : wr.grownBy w' tv.ownBlock) (hat : tv'.ownBlock = tv.ownBlock ∨ tv'.ownBlock = some wr.heap.size) : RSt wB w' mb tv' ov (thr ++ [x]) ks out N where
  t := hown
  o := h.o.kept hg (none_or fun i hi e => h.ap i e hi)
  m := h.m.kept (hg.block mb h.m.lt (fun e => h.tm e.symm))
  tm := by
    rcases hat with e | e
    · rw [e]; exact h.tm
    · rw [e]; intro e2; have := h.m.lt; injection e2 with e2; omega
  om := h.om
  ap := fun i hi => by
    rcases hat with e | e
    · rw [e] at hi; exact h.ap i hi
    · rw [e] at hi; intro e2; have := (h.o.lt i e2).2; injection hi with hi; omega
  lo := h.lo
  ext := h.ext.grow' hg (fun i hi => (h.t.lt i hi).1)
theorem RSt.seen {wB wr w' : World} {mb : Nat} {tv ov : Value} {thr ks ks' out : List Hdr} {N N' : Int} (h : RSt wB wr mb tv ov thr ks out N) (hm : SeenIs w' mb ks' N') (hg : wr.grownBy w' (some mb)) : RSt wB w' mb tv ov thr ks' out N' where
  t := h.t.kept hg (.inr h.tm)
  o := h.o.kept hg (.inr h.om)
  m := hm
  tm := h.tm
  om := h.om
  ap := h.ap
  lo := h.lo
  ext := h.ext.trans' ⟨hg.os, hg.tape, hg.output, hg.size, fun i hi => hg.block i (Nat.lt_of_lt_of_le hi h.ext.size) (fun e => by have := h.lo; injection e with e; omega)⟩
end Go.Proofs.Ytddeelepaiklgaa

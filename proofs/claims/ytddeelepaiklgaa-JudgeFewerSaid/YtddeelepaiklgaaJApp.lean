/- Appends of headers inside a region that draws its order; parts of a slice of headers. -/
import Derived.Test.YtddeelepaiklgaaJUnion
namespace Go.Proofs.Ytddeelepaiklgaa
open Go.RowKit Go.Maps Go.Sort Go.Lib

theorem rangeAt_app {w : World} {b o : Nat} {xs ys : List Value} (h : w.rangeAt b o (xs ++ ys)) : w.rangeAt b o xs ∧ w.rangeAt b (o + xs.length) ys := by
  refine ⟨fun j v hv => h j v ?_, fun j v hv => ?_⟩
  · rw [List.getElem?_append_left (List.getElem?_eq_some_iff.1 hv).1]; exact hv
  · have := h (xs.length + j) v (by rw [List.getElem?_append_right (by omega), Nat.add_sub_cancel_left]; exact hv)
    rwa [show o + xs.length + j = o + (xs.length + j) from by omega]
theorem flatH_app (l m : List Hdr) : flatH (l ++ m) = flatH l ++ flatH m := by simp [flatH]
theorem hsl_head {W : World} {b o : Nat} {l : List Hdr} (hr : W.rangeAt b o (flatH l)) (k co : Nat) (hk : k ≤ l.length) : HSl W 0 (l.take k) (sliced (some ⟨b, o, none⟩) 0 k co 11) := by
  refine ⟨some ⟨b, o, none⟩, k, co, ?_, by rw [List.length_take]; omega, .inr ⟨b, o, rfl, Nat.zero_le _, ?_⟩⟩
  · unfold sliced
    rw [Nat.sub_zero, Nat.sub_zero]
    split <;> simp [Addr.add]
  · have e : flatH l = flatH (l.take k) ++ flatH (l.drop k) := by rw [← flatH_app, List.take_append_drop]
    rw [e] at hr
    exact (rangeAt_app hr).1
theorem hsl_tail {W : World} {b o : Nat} {l : List Hdr} (hr : W.rangeAt b o (flatH l)) (k lo co : Nat) (hl : lo = l.length) (hk : k + 1 ≤ lo) (hc : lo ≤ co) : HSl W 0 (l.drop (k + 1)) (sliced (some ⟨b, o, none⟩) (k + 1) lo co 11) := by
  refine ⟨_, lo - (k + 1), co - (k + 1), rfl, by rw [List.length_drop]; omega, ?_⟩
  by_cases h : lo = k + 1
  · exact .inl (List.length_eq_zero_iff.1 (by rw [List.length_drop]; omega))
  · refine .inr ⟨b, o + (k + 1) * 11, ?_, Nat.zero_le _, ?_⟩
    · rw [if_neg (by omega)]
      simp [Addr.add]
    · have e : flatH l = flatH (l.take (k + 1)) ++ flatH (l.drop (k + 1)) := by rw [← flatH_app, List.take_append_drop]
      rw [e] at hr
      have := (rangeAt_app hr).2
      rwa [flatH_len, List.length_take, show min (k + 1) l.length = k + 1 from by omega] at this
theorem hsl_one {w : World} {x : Hdr} (lo : Nat) (h : lo ≤ w.heap.size) : HSl (w.alloc (.cells x.cs 24)) lo [x] (.slice (some ⟨w.heap.size, 0, none⟩) 1 1) :=
  ⟨_, 1, 1, rfl, rfl, .inr ⟨w.heap.size, 0, rfl, h, by
    have := rangeAt_new w x.cs 24
    have e : flatH [x] = x.cs.toList := by simp [flatH]
    rwa [e]⟩⟩
theorem run_append_sl (w : World) (ty : TypeId) (base : Nat) (v : Value) (l : List Hdr) (hown : w.ownsRow base 24 11 v l.length (flatH l))
    (lo : Nat) (m : List Hdr) (u : Value) (hu : HSl w lo m u) (hlen : l.length + m.length < 1000000000) (hbase : base ≤ w.heap.size) :
    ∃ v' w', (Builtin.append_ #[25, 25] ty #[v, u]).run Try.prog w = .ok v' w' ∧ w'.ownsRow base 24 11 v' (l ++ m).length (flatH (l ++ m)) ∧ w.grownBy w' v.ownBlock ∧ (v'.ownBlock = v.ownBlock ∨ v'.ownBlock = some w.heap.size) := by
  obtain ⟨q, n, k, rfl, hn, hq⟩ := hu
  rcases Nat.eq_zero_or_pos n with h0 | hpos
  · subst h0
    have hm : m = [] := List.length_eq_zero_iff.1 hn.symm
    subst hm
    obtain ⟨p, c, rfl, hc⟩ := owns_at hown
    exact ⟨_, _, run_append_zero w ty p q l.length c k hc, by simpa using hown, ⟨rfl, rfl, rfl, Nat.le_refl _, fun _ _ _ => rfl⟩, .inl rfl⟩
  · rcases hq with hq | ⟨b, o', rfl, -, hr⟩
    · exfalso; subst hq; simp at hn; omega
    obtain ⟨i0, hi0, hz0, hz1, hz2⟩ := info_parts infoH
    obtain ⟨v', w', hr, h2, h3, -, h5⟩ := run_append_own_at (P := Try.prog) w base 25 ty 24 i0 _ 11 88 Try.underlying25 hi0 hz0 hz1 hz2 rfl (by omega) v l.length (flatH l) hown ⟨b, o', none⟩ n k (flatH m) (by rw [flatH_len, hn])
      (fun j u hu => by rw [Addr.add_mid]; exact hr j u hu) (fun u hu => by
        obtain ⟨h, -, hh⟩ := List.mem_flatMap.1 hu
        exact h.one u hh) (by unfold maxLen; omega) (by omega) hbase
    refine ⟨v', w', hr, ?_, h3, h5⟩
    have e : flatH (l ++ m) = flatH l ++ flatH m := by simp [flatH]
    rw [e, List.length_append, ← hn]
    exact h2
/-- at a step of a region that draws -/
theorem step_append_sl {ops : Array Oper} {o : Oper} {a : Act} {w : World} {K : Act → World → Prop} {Q : Exit → Act → World → Prop} {E : Prop} (hgd : o.guard = none) (s x : Operand)
    (ho : o.op = .call { callee := .builtin .append, args := #[s, x], argTypes := #[25, 25] }) (base : Nat) (v : Value) (l : List Hdr) (hs : a.eval s = v) (hown : w.ownsRow base 24 11 v l.length (flatH l))
    (lo : Nat) (m : List Hdr) (u : Value) (hx : a.eval x = u) (hu : HSl w lo m u) (hlen : l.length + m.length < 1000000000) (hbase : base ≤ w.heap.size)
    (h : ∀ v' w', w'.ownsRow base 24 11 v' (l ++ m).length (flatH (l ++ m)) → w.grownBy w' v.ownBlock → (v'.ownBlock = v.ownBlock ∨ v'.ownBlock = some w.heap.size) → K (a.put o.dst v') w') :
    if Region.wanted o (yielded ops a.tmps) = true then Oper.wp Try.prog o a w K Q else E := by
  have hw : Region.wanted o (yielded ops a.tmps) = true := by simp [Region.wanted, hgd]
  rw [if_pos hw]
  obtain ⟨v', w', hr, h2, h3, h5⟩ := run_append_sl w o.type base v l hown lo m u hu hlen hbase
  unfold Oper.wp execOp
  simp only [ho, resolve, invoke, builtin, Sem.run_bind, Sem.run_pure, Result.andThen_ok, List.map_toArray, List.map_cons, List.map_nil, hs, hx, hr]
  exact h v' w' h2 h3 h5
/-- []Header{y} at a step of a region that draws -/
theorem step_one_H {o : Oper} {ops : Array Oper} {a : Act} {w : World} {K : Act → World → Prop} {Q : Exit → Act → World → Prop} {E : Prop} (hgd : o.guard = none) (x : Operand) (ho : o.op = .buildSlice 25 1 #[(0, x)]) (y : Hdr) (hx : a.eval x = .agg y.cs)
    (h : K (a.put o.dst (.slice (some ⟨w.heap.size, 0, none⟩) 1 1)) (w.alloc (.cells y.cs 24))) :
    if Region.wanted o (yielded ops a.tmps) = true then Oper.wp Try.prog o a w K Q else E := by
  have hw : Region.wanted o (yielded ops a.tmps) = true := by simp [Region.wanted, hgd]
  rw [if_pos hw]
  have hr := run_buildSlice_one (P := Try.prog) Try.underlying25 sizeH zeroH (by omega) (by omega) y.size_cs w
  unfold Oper.wp execOp
  simp only [ho, Sem.run_bind, Sem.run_pure, Result.andThen_ok, List.map_toArray, List.map_cons, List.map_nil, hx, hr]
  exact h
end Go.Proofs.Ytddeelepaiklgaa

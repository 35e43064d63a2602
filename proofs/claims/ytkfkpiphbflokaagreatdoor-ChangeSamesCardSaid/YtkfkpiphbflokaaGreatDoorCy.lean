/- The document's Copy of a change: the same fields; the clock's numbers in a row of its own. -/
import Derived.Test.YtkfkpiphbflokaaGreatDoorCh
import Derived.Laws.AppendOwn
import Derived.Laws.OwnMore
namespace Go.Proofs.YtkfkpiphbflokaaGreatDoor
open Go Go.RowKit

/-- The change with another row for its clock. -/
def Chg.valW (c : Chg) (v : Value) : Value := .agg #[.int .i64 c.own.c, .int .i64 c.own.r, .int .i64 c.seq, v, .int .i64 c.kind, .int .i64 c.node.c, .int .i64 c.node.r, .int .i64 c.par.c, .int .i64 c.par.r, .int .i64 c.aft.c, .int .i64 c.aft.r, .string c.name, .string c.value]
def Copied (c : Chg) (w : World) (e : Ending) (w' : World) : Prop := ∃ g k cs, e = .returned (c.valW (.slice (some ⟨g, 0, none⟩) c.l.length k)) ∧ w.heap.size ≤ g ∧ w'.heap[g]? = some (.cells cs 3) ∧ cs.toList.take c.l.length = c.l.map (Value.int .i64) ∧ Below w.heap.size w w'

theorem bcell {W w1 : World} {n : Nat} (hb : Below n W w1) : (∀ b o, b < n → w1.cell? ⟨b, o, none⟩ = W.cell? ⟨b, o, none⟩) ∧ (∀ b o, b < n → w1.frozen? ⟨b, o, none⟩ = W.frozen? ⟨b, o, none⟩) :=
  ⟨fun b o h => hb.cell (p := ⟨b, o, none⟩) h, fun b o h => hb.frozen (p := ⟨b, o, none⟩) h⟩

theorem boxed_all0 {w w1 : World} {t1 t2 t3 : TypeId} {v0 v1 v2 v3 v4 v5 v6 v7 v8 v9 v10 v11 v12 : Value} {c2 c3 : Array Value} (hb : Below (w.heap.size + 2) (((w.alloc (.cells #[v0, v1, v2, v3, v4, v5, v6, v7, v8, v9, v10, v11, v12] t1)).alloc (.cells c2 t2)).alloc (.cells c3 t3)) w1) : w1.heap[w.heap.size]? = some (.cells #[v0, v1, v2, v3, v4, v5, v6, v7, v8, v9, v10, v11, v12] t1 (0, 0)) := by
  rw [hb.block _ (by omega), Below.heap_alloc _ _ _ (by simp; omega), Below.heap_alloc _ _ _ (by simp), heap_alloc_new]
theorem boxed_all {w w1 : World} {t1 t2 t3 : TypeId} {v0 v1 v2 v3 v4 v5 v6 v7 v8 v9 v10 v11 v12 : Value} {c2 c3 : Array Value} (hb : Below (w.heap.size + 2) (((w.alloc (.cells c2 t2)).alloc (.cells #[v0, v1, v2, v3, v4, v5, v6, v7, v8, v9, v10, v11, v12] t1)).alloc (.cells c3 t3)) w1) : w1.heap[w.heap.size + 1]? = some (.cells #[v0, v1, v2, v3, v4, v5, v6, v7, v8, v9, v10, v11, v12] t1 (0, 0)) := by
  rw [hb.block _ (by omega), Below.heap_alloc _ _ _ (by simp)]
  have := heap_alloc_new (w.alloc (.cells c2 t2)) (.cells #[v0, v1, v2, v3, v4, v5, v6, v7, v8, v9, v10, v11, v12] t1)
  simpa using this
theorem boxed {w w1 : World} {t1 t2 t3 : TypeId} {v0 v1 v2 v3 v4 v5 v6 v7 v8 v9 v10 v11 v12 : Value} {c2 c3 : Array Value} (hb : Below (w.heap.size + 2) (((w.alloc (.cells #[v0, v1, v2, v3, v4, v5, v6, v7, v8, v9, v10, v11, v12] t1)).alloc (.cells c2 t2)).alloc (.cells c3 t3)) w1) :
    (∀ o, w1.frozen? ⟨w.heap.size, o, none⟩ = false) ∧ w1.cell? ⟨w.heap.size, 0, none⟩ = some v0 ∧ w1.cell? ⟨w.heap.size, 1, none⟩ = some v1 ∧ w1.cell? ⟨w.heap.size, 2, none⟩ = some v2 ∧ w1.cell? ⟨w.heap.size, 3, none⟩ = some v3 ∧ w1.cell? ⟨w.heap.size, 4, none⟩ = some v4 ∧ w1.cell? ⟨w.heap.size, 5, none⟩ = some v5 ∧ w1.cell? ⟨w.heap.size, 6, none⟩ = some v6 ∧ w1.cell? ⟨w.heap.size, 7, none⟩ = some v7 ∧ w1.cell? ⟨w.heap.size, 8, none⟩ = some v8 ∧ w1.cell? ⟨w.heap.size, 9, none⟩ = some v9 ∧ w1.cell? ⟨w.heap.size, 10, none⟩ = some v10 ∧ w1.cell? ⟨w.heap.size, 11, none⟩ = some v11 ∧ w1.cell? ⟨w.heap.size, 12, none⟩ = some v12 := by
  have hh : w1.heap[w.heap.size]? = some (.cells #[v0, v1, v2, v3, v4, v5, v6, v7, v8, v9, v10, v11, v12] t1 (0, 0)) := by
    rw [hb.block _ (by omega), Below.heap_alloc _ _ _ (by simp; omega), Below.heap_alloc _ _ _ (by simp), heap_alloc_new]
  have hc := fun j => cell_of_row w1 w.heap.size j _ t1 (0, 0) hh
  refine ⟨fun o => by simp [World.frozen?, hh], hc 0, hc 1, hc 2, hc 3, hc 4, hc 5, hc 6, hc 7, hc 8, hc 9, hc 10, hc 11, hc 12⟩
theorem boxed1 {w w1 : World} {t1 t2 t3 : TypeId} {v0 v1 v2 v3 v4 v5 v6 v7 v8 v9 v10 v11 v12 : Value} {c2 c3 : Array Value} (hb : Below (w.heap.size + 2) (((w.alloc (.cells c2 t2)).alloc (.cells #[v0, v1, v2, v3, v4, v5, v6, v7, v8, v9, v10, v11, v12] t1)).alloc (.cells c3 t3)) w1) :
    (∀ o, w1.frozen? ⟨w.heap.size + 1, o, none⟩ = false) ∧ w1.cell? ⟨w.heap.size + 1, 0, none⟩ = some v0 ∧ w1.cell? ⟨w.heap.size + 1, 1, none⟩ = some v1 ∧ w1.cell? ⟨w.heap.size + 1, 2, none⟩ = some v2 ∧ w1.cell? ⟨w.heap.size + 1, 3, none⟩ = some v3 ∧ w1.cell? ⟨w.heap.size + 1, 4, none⟩ = some v4 ∧ w1.cell? ⟨w.heap.size + 1, 5, none⟩ = some v5 ∧ w1.cell? ⟨w.heap.size + 1, 6, none⟩ = some v6 ∧ w1.cell? ⟨w.heap.size + 1, 7, none⟩ = some v7 ∧ w1.cell? ⟨w.heap.size + 1, 8, none⟩ = some v8 ∧ w1.cell? ⟨w.heap.size + 1, 9, none⟩ = some v9 ∧ w1.cell? ⟨w.heap.size + 1, 10, none⟩ = some v10 ∧ w1.cell? ⟨w.heap.size + 1, 11, none⟩ = some v11 ∧ w1.cell? ⟨w.heap.size + 1, 12, none⟩ = some v12 := by
  have hh : w1.heap[w.heap.size + 1]? = some (.cells #[v0, v1, v2, v3, v4, v5, v6, v7, v8, v9, v10, v11, v12] t1 (0, 0)) := by
    rw [hb.block _ (by omega), Below.heap_alloc _ _ _ (by simp)]
    have := heap_alloc_new (w.alloc (.cells c2 t2)) (.cells #[v0, v1, v2, v3, v4, v5, v6, v7, v8, v9, v10, v11, v12] t1)
    simpa using this
  have hc := fun j => cell_of_row w1 (w.heap.size + 1) j _ t1 (0, 0) hh
  refine ⟨fun o => by simp [World.frozen?, hh], hc 0, hc 1, hc 2, hc 3, hc 4, hc 5, hc 6, hc 7, hc 8, hc 9, hc 10, hc 11, hc 12⟩
/-- Thirteen cells laid over thirteen. -/
theorem laid13 {w : World} {b : Nat} {t : TypeId} {u0 u1 u2 u3 u4 u5 u6 u7 u8 u9 u10 u11 u12 x0 x1 x2 x3 x4 x5 x6 x7 x8 x9 x10 x11 x12 : Value} (h : w.heap[b]? = some (.cells #[u0, u1, u2, u3, u4, u5, u6, u7, u8, u9, u10, u11, u12] t (0, 0))) :
    (((((((((((((w.setCell ⟨b, 0, none⟩ x0).setCell ⟨b, 1, none⟩ x1).setCell ⟨b, 2, none⟩ x2).setCell ⟨b, 3, none⟩ x3).setCell ⟨b, 4, none⟩ x4).setCell ⟨b, 5, none⟩ x5).setCell ⟨b, 6, none⟩ x6).setCell ⟨b, 7, none⟩ x7).setCell ⟨b, 8, none⟩ x8).setCell ⟨b, 9, none⟩ x9).setCell ⟨b, 10, none⟩ x10).setCell ⟨b, 11, none⟩ x11).setCell ⟨b, 12, none⟩ x12).heap[b]? = some (.cells #[x0, x1, x2, x3, x4, x5, x6, x7, x8, x9, x10, x11, x12] t (0, 0)) := by
  simp [World.setCell, Array.getElem?_modify, h]
theorem laid_far {w : World} {b g : Nat} {x0 x1 x2 x3 x4 x5 x6 x7 x8 x9 x10 x11 x12 : Value} (h : g ≠ b) : (((((((((((((w.setCell ⟨b, 0, none⟩ x0).setCell ⟨b, 1, none⟩ x1).setCell ⟨b, 2, none⟩ x2).setCell ⟨b, 3, none⟩ x3).setCell ⟨b, 4, none⟩ x4).setCell ⟨b, 5, none⟩ x5).setCell ⟨b, 6, none⟩ x6).setCell ⟨b, 7, none⟩ x7).setCell ⟨b, 8, none⟩ x8).setCell ⟨b, 9, none⟩ x9).setCell ⟨b, 10, none⟩ x10).setCell ⟨b, 11, none⟩ x11).setCell ⟨b, 12, none⟩ x12).heap[g]? = w.heap[g]? := by
  have hb : b ≠ g := fun e => h e.symm
  simp [World.setCell, Array.getElem?_modify, hb]
theorem laid_below {W w : World} {b : Nat} {x0 x1 x2 x3 x4 x5 x6 x7 x8 x9 x10 x11 x12 : Value} (h : Below W.heap.size W w) (hb : W.heap.size ≤ b) : Below W.heap.size W (((((((((((((w.setCell ⟨b, 0, none⟩ x0).setCell ⟨b, 1, none⟩ x1).setCell ⟨b, 2, none⟩ x2).setCell ⟨b, 3, none⟩ x3).setCell ⟨b, 4, none⟩ x4).setCell ⟨b, 5, none⟩ x5).setCell ⟨b, 6, none⟩ x6).setCell ⟨b, 7, none⟩ x7).setCell ⟨b, 8, none⟩ x8).setCell ⟨b, 9, none⟩ x9).setCell ⟨b, 10, none⟩ x10).setCell ⟨b, 11, none⟩ x11).setCell ⟨b, 12, none⟩ x12) :=
  (((((((((((((h.setCell (p := ⟨b, 0, none⟩) hb _).setCell (p := ⟨b, 1, none⟩) hb _).setCell (p := ⟨b, 2, none⟩) hb _).setCell (p := ⟨b, 3, none⟩) hb _).setCell (p := ⟨b, 4, none⟩) hb _).setCell (p := ⟨b, 5, none⟩) hb _).setCell (p := ⟨b, 6, none⟩) hb _).setCell (p := ⟨b, 7, none⟩) hb _).setCell (p := ⟨b, 8, none⟩) hb _).setCell (p := ⟨b, 9, none⟩) hb _).setCell (p := ⟨b, 10, none⟩) hb _).setCell (p := ⟨b, 11, none⟩) hb _).setCell (p := ⟨b, 12, none⟩) hb _)
theorem results_cell1 {P : Program} {fn : Func} {p : Tmp} {ty : TypeId} (h : fn.results = #[.cell p ty]) (tmps : Array Value) (w : World) (g : Nat) (t : TypeId) (cs : Array Value) (d : TypeDesc)
    (hp : tmps.getD p undef = .pointer (some ⟨g, 0, none⟩)) (hg : w.heap[g]? = some (.cells cs t (0, 0)))
    (hu : P.underlying ty = some d) (hd : (match d with | .struct _ | .array _ _ => true | _ => false) = true) (hi : (P.info? ty).map (·.size) = some cs.size) :
    (results fn tmps).run P w = .ok (.agg cs) w := by
  have hp' : tmps[p]?.getD undef = .pointer (some ⟨g, 0, none⟩) := by simpa using hp
  simp [results, h, hp', asAddr, run_loadVar_row w g t ty cs (0, 0) d hg hu hd hi]
theorem two_in (w : World) (c1 c2 c3 : Array Value) (t1 t2 : TypeId) : (((w.alloc (.cells c1 t1)).alloc (.cells c2 t2)).alloc (.cells c3 3)).heap[w.heap.size + 1]? = some (.cells c2 t2 (0, 0)) := by
  rw [Below.heap_alloc _ _ _ (by simp)]
  have := heap_alloc_new (w.alloc (.cells c1 t1)) (.cells c2 t2)
  simpa using this
theorem three_in (w : World) (c1 c2 c3 : Array Value) (t1 t2 : TypeId) : (((w.alloc (.cells c1 t1)).alloc (.cells c2 t2)).alloc (.cells c3 3)).heap[w.heap.size + 1 + 1]? = some (.cells c3 3 (0, 0)) := by
  have := heap_alloc_new ((w.alloc (.cells c1 t1)).alloc (.cells c2 t2)) (.cells c3 3)
  simpa using this
theorem own_empty (w : World) (c1 c2 : Array Value) (t1 t2 : TypeId) : (((w.alloc (.cells c1 t1)).alloc (.cells c2 t2)).alloc (.cells #[] 3)).ownsRow w.heap.size 3 1 (.slice (some ⟨w.heap.size + 1 + 1, 0, none⟩) 0 0) 0 [] := by
  have := World.ownsRow_lit (base := w.heap.size) (e := 3) (size := 1) ((w.alloc (.cells c1 t1)).alloc (.cells c2 t2)) #[] 0 (by simp; omega) (by unfold maxLen; omega) rfl
  simpa using this

set_option maxHeartbeats 3200000 in
set_option maxRecDepth 100000 in
theorem copy_any (c : Chg) (w : World) (h : c.In w) (hn : c.Nil) : Calls Tryz.prog 12 #[c.val] w (Copied c w) := by
  obtain ⟨own, seq, A, cap, l, kind, node, par, aft, name, value⟩ := c
  obtain ⟨i0, hi, hz0, hz1, hz2⟩ := info_parts info3
  have hbig := h.big
  have hints := h.ints
  simp only at hbig hints
  generalize hlen : l.length = n at hbig
  have HN := Lib.hid hlen
  have HI := Lib.hid hints
  show Calls Tryz.prog 12 #[.agg #[.int .i64 own.c, .int .i64 own.r, .int .i64 seq, .slice A l.length cap, .int .i64 kind, .int .i64 node.c, .int .i64 node.r, .int .i64 par.c, .int .i64 par.r, .int .i64 aft.c, .int .i64 aft.r, .string name, .string value]] w _
  rw [hlen]
  clear hlen hints h
  cases A with
  | none =>
    obtain ⟨hl0, hcap⟩ := hn rfl
    simp only at hl0 hcap
    subst hl0
    have h0 : n = 0 := by rw [← HN.out]; rfl
    subst h0
    subst hcap
    clear hn
    go_enter Tryz.func12, Tryz.ntmps12
    go_wp2_with (at_builtin; refine wpList_append_own_none rfl _ _ 24 rfl (w.heap.size) 3 i0 1 Tryz.underlying24 hi _ 0 [] rfl (own_empty _ _ _ _ _) rfl ?_)
    refine bodyPost_ret (results_cell1 rfl _ _ (w.heap.size + 1) 26 _ _ rfl (two_in _ _ _ _ _ _) Tryz.underlying26 rfl (by kernel_rfl)) rfl ?_
    refine ⟨w.heap.size + 1 + 1, 0, #[], rfl, by omega, three_in _ _ _ _ _ _, rfl, ?_⟩
    exact (((Below.refl w.heap.size w).alloc (Nat.le_refl _) _).alloc (by simp) _).alloc (by simp; omega) _
  | some ad =>
    clear hn
    go_enter Tryz.func12, Tryz.ntmps12
    go_wp2_with (at_builtin; refine wpList_append_own _ rfl _ _ 24 rfl (w.heap.size) 3 i0 (.int .i64 0) 1 8 Tryz.underlying24 hi hz0 hz1 hz2 rfl (by decide) _ 0 [] rfl (own_empty _ _ _ _ _) ad n cap (l.map (Value.int .i64)) rfl ?c8 ?c1 ?c2 ?c3 ?c4 ?c5 ?_)
    case c8 => rw [List.length_map, HN.out]; omega
    case c1 =>
      intro j u hj
      rw [List.getElem?_map] at hj
      cases hl : l[j]? with
      | none => rw [hl] at hj; cases hj
      | some x =>
        rw [hl] at hj
        have hx : u = .int .i64 x := by simpa using hj.symm
        subst hx
        have hlt : j < l.length := (List.getElem?_eq_some_iff.1 hl).1
        obtain ⟨b, o, e, hc⟩ := HI.out j hlt
        cases e
        have hd : l.getD j 0 = x := by rw [List.getD_eq_getElem?_getD, hl]; rfl
        rw [hd] at hc
        have hbl := World.block_lt_of_cell? w _ hc
        have hb : Below w.heap.size w _ := (((Below.refl w.heap.size w).alloc (Nat.le_refl _) (.cells #[.int .i64 own.c, .int .i64 own.r, .int .i64 seq, .slice (some ⟨b, o, none⟩) n cap, .int .i64 kind, .int .i64 node.c, .int .i64 node.r, .int .i64 par.c, .int .i64 par.r, .int .i64 aft.c, .int .i64 aft.r, .string name, .string value] 26)).alloc (by simp) (.cells #[.int .i64 0, .int .i64 0, .int .i64 0, .slice none 0 0, .int .i64 0, .int .i64 0, .int .i64 0, .int .i64 0, .int .i64 0, .int .i64 0, .int .i64 0, .string .empty, .string .empty] 26)).alloc (by simp; omega) (.cells #[] 3)
        have ha : (⟨b, o, none⟩ : Addr).add j = ⟨b, o + j, none⟩ := by
          by_cases h0 : j = 0
          · subst h0; rfl
          · simp [Addr.add, h0]
        rw [ha]
        exact (hb.cell (p := ⟨b, o + j, none⟩) hbl).trans hc
    case c2 => intro u hu; obtain ⟨x, _, rfl⟩ := List.mem_map.1 hu; rfl
    case c3 => unfold maxLen; omega
    case c4 => omega
    case c5 => simp; omega
    intro v' w1 hown' hgrow hiff
    have hown2 := hown'
    have hrow : ∀ k, (Value.slice (some ⟨w.heap.size + 1 + 1, 0, none⟩) 0 0).ownBlock = some k → w.heap.size + 2 ≤ k := fun k hk => by
      have : w.heap.size + 1 + 1 = k := by simpa [Value.ownBlock] using hk
      omega
    have hb2 := (Below.refl (w.heap.size + 2) _).grown hgrow (by simp) hrow
    obtain ⟨hc, hf⟩ := bcell hb2
    obtain ⟨g, cap', cur, rfl, hg0, hg1, hg2, hg3, hg4, hg5⟩ : ∃ g cap' cur, v' = .slice (some ⟨g, 0, none⟩) n cap' ∧ w.heap.size ≤ g ∧ w1.heap[g]? = some (.cells cur 3) ∧ n ≤ cap' ∧ cap' ≤ maxLen ∧ cur.size = cap' * 1 ∧ cur.toList.take (n * 1) = l.map (Value.int .i64) := by
      rcases hown2.2 with ⟨hv, _⟩ | h
      · exact (hiff hv).elim
      · exact h
    have HG := Lib.hid (And.intro hg1 (And.intro hg4 hg5))
    have HB2 := Lib.hid hb2
    obtain ⟨kf, k0, k1, k2, k3, k4, k5, k6, k7, k8, k9, k10, k11, k12⟩ := boxed hb2
    have ks : (w1.setCell ⟨w.heap.size, 3, none⟩ (.slice (some ⟨g, 0, none⟩) n cap')).cell? ⟨w.heap.size, 3, none⟩ = some (.slice (some ⟨g, 0, none⟩) n cap') := World.cell?_setCell_same _ _ _ k3
    obtain ⟨mf, m0, m1, m2, m3, m4, m5, m6, m7, m8, m9, m10, m11, m12⟩ := boxed1 hb2
    have hz := boxed_all hb2
    have hb3 := hb2.mono (Nat.le_add_right w.heap.size 2)
    have hb4 : Below w.heap.size w _ := ((((Below.refl w.heap.size w).alloc (Nat.le_refl _) (.cells #[.int .i64 own.c, .int .i64 own.r, .int .i64 seq, .slice (some ad) n cap, .int .i64 kind, .int .i64 node.c, .int .i64 node.r, .int .i64 par.c, .int .i64 par.r, .int .i64 aft.c, .int .i64 aft.r, .string name, .string value] 26)).alloc (by simp) (.cells #[.int .i64 0, .int .i64 0, .int .i64 0, .slice none 0 0, .int .i64 0, .int .i64 0, .int .i64 0, .int .i64 0, .int .i64 0, .int .i64 0, .int .i64 0, .string .empty, .string .empty] 26)).alloc (by simp; omega) (.cells #[] 3)).trans hb3
    have hng : g ≠ w.heap.size + 1 := fun e => by subst e; rw [hz] at hg1; injection hg1 with h; injection h with _ h; revert h; decide
    have hng0 : g ≠ w.heap.size := fun e => by subst e; rw [boxed_all0 hb2] at hg1; injection hg1 with h; injection h with _ h; revert h; decide
    have HZ := Lib.hid (And.intro hz (And.intro hng hng0))
    have HB4 := Lib.hid hb4
    clear hz hng hng0 hb3 hb4
    clear hc hf hown' hown2 hgrow hiff hg1 hg3 hg4 hg5 hb2
    go_wp2
    obtain ⟨hz, hng, hng0⟩ := HZ.out
    obtain ⟨hg1, hg4, hg5⟩ := HG.out
    refine bodyPost_ret (results_cell1 rfl _ _ (w.heap.size + 1) 26 _ _ rfl (laid13 ((Below.heap_setCell _ _ _ _ (by simp)).trans hz)) Tryz.underlying26 rfl (by kernel_rfl)) rfl ?_
    refine ⟨g, cap', cur, ?_, hg0, ?_, ?_, ?_⟩
    · rw [← HN.out]; rfl
    · rw [laid_far hng, Below.heap_setCell _ _ _ _ hng0]; exact hg1
    · rw [HN.out]; rw [Nat.mul_one] at hg5; exact hg5
    · exact laid_below (HB4.out.setCell (Nat.le_refl _) _) (Nat.le_succ _)
end Go.Proofs.YtkfkpiphbflokaaGreatDoor

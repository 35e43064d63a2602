/- The engine, part 23: a call that answers a slice of its own. -/
import Derived.Test.YtkfkpiphbflokaaGreatDoorEL
namespace Go.Eng
open Go.RowKit (Below)
set_option linter.unusedSectionVars false

/-- The cells at a slice's head. -/
def CellsAt (w : World) (A : Option Addr) (vs : List Value) : Prop := ∀ i v, vs[i]? = some v → ∃ b o, A = some ⟨b, o, none⟩ ∧ w.cell? ⟨b, o + i, none⟩ = some v

theorem CellsAt.below {w w' : World} {A : Option Addr} {vs : List Value} {n : Nat} (h : CellsAt w A vs) (hb : Below n w w') (hn : w.heap.size ≤ n) : CellsAt w' A vs := by
  intro i v hi
  obtain ⟨b, o, e, hc⟩ := h i v hi
  exact ⟨b, o, e, (hb.cell (p := ⟨b, o + i, none⟩) (Nat.lt_of_lt_of_le (World.block_lt_of_cell? w _ hc) hn)).trans hc⟩

/-- A run's answer that is a slice of known cells. -/
def sliceIs (x : Option (Value × Heap)) (cs : List Value) (n : Nat) : Bool :=
  match x with
  | some (.slice (some ⟨b, 0, none⟩) m _, H) => Nat.beq m n && ((cs.isEmpty || Nat.blt 0 n) && (match H.get b with
    | .cells ds _ _ _ _ => sameL sameV cs (ds.take cs.length)
    | _ => false))
  | _ => false

variable [Sig]
theorem slice_calls {P : Program} {q : Qs} {β : Nat → Bool} (hq : QsOK P q β) (hmix : P.follows .mixedOrders = true) {n : Nat} {f : FuncId} {fn : Func} (hf : P.funcs[f]? = some fn) {args : List Value} (ha : args.all symOnly = true) (hpr : prims P (q.primsL []) f = none)
    (w : World) (hw : Below Sig.lim Sig.old w) (hlim : Sig.lim ≤ w.heap.size) {cs : List Value} {len : Nat} (hcs : cs.all symOnly0 = true) (h : sliceIs (q.run P [] n f args) cs len = true) :
    Calls P f (args.map inst).toArray w (fun e w' => ∃ A c, e = .returned (.slice A len c) ∧ CellsAt w' A (cs.map inst0) ∧ Below w.heap.size w w') := by
  have hac : Acc.fits [] β := fun _ _ h => by cases h
  unfold sliceIs at h
  split at h
  · rename_i b m cap H' hr
    simp only [Bool.and_eq_true] at h
    have hm := Nat.eq_of_beq_eq_true h.1
    subst hm
    obtain ⟨h0, h1, h2⟩ := h
    split at h2
    · rename_i ds el sz slack ro hg
      have hds := sameL_eq (fun a b => sameV_eq) h2
      unfold Qs.run at hr
      simp only [hands, hpr, hf] at hr
      have ih := hands_ok (hq.prims hac) (hq.binOK hac) (unTab_ok hq.fixU) hmix n
      have hdr := drawV_sound ih hmix
      obtain ⟨_, k⟩ := funcV_sound ih hdr hf hr (start_rel P w hw hlim) (insts_rel _ ha) 0 (fun e w' => ∃ A c, e = .returned (.slice A m c) ∧ CellsAt w' A (cs.map inst0) ∧ Below w.heap.size w w') (fun φ' v' w' _ hvr r => by
        obtain ⟨_, pl, a', cap', hp, rfl, hle, hcap, haddr⟩ := hvr.inv_slice
        refine ⟨some a', cap', rfl, ?_, r.below⟩
        intro i v hi
        have hb := r.blk _ pl hp
        rw [hg] at hb
        obtain ⟨b1, b2, b3, b4, c, fz, b5, b6, b7, b8⟩ := hb
        have hlt : i < cs.length := by
          have := (List.getElem?_eq_some_iff.1 hi).1
          simpa using this
        have hdl : cs.length ≤ ds.length := by
          have := congrArg List.length hds
          simp at this; omega
        obtain ⟨u, hu⟩ : ∃ u, cs[i]? = some u := ⟨_, List.getElem?_eq_getElem hlt⟩
        have hdu : ds[i]? = some u := by
          rw [hds, List.getElem?_take] at hu
          simpa [hlt] using hu
        obtain ⟨u', hu', hrel⟩ := b7.get hdu
        have hs : symOnly0 u = true := List.all_eq_true.1 hcs u (List.mem_of_getElem? hu)
        have hv : v = inst0 u := by
          rw [List.getElem?_map, hu] at hi
          simpa using hi.symm
        rw [inst0_eq hrel hs] at hu'
        have hget : c[pl.off + i]? = some (inst0 u) := by
          rw [List.getElem?_take] at hu'
          have hlt2 : i < ds.length := by omega
          rw [if_pos hlt2, List.getElem?_drop] at hu'
          simpa using hu'
        have hpos : 0 < m := by
          rcases Bool.or_eq_true _ _ ▸ h1 with h1 | h1
          · rw [List.isEmpty_iff] at h1; rw [h1] at hlt; simp at hlt
          · simpa [Nat.blt_eq] using h1
        have ha' : a' = ⟨pl.blk, pl.off + 0, none⟩ := haddr.resolve_left (by split at hcap <;> omega)
        refine ⟨pl.blk, pl.off, by rw [ha']; rfl, ?_⟩
        rw [hv]
        simp [World.cell?, b5, hget])
      exact callsIn_wide.1 k
    · cases h2
  · cases h
end Go.Eng

/- What the row of topiarylaw21.ReplicaNil asks of the call: whatever the act and whatever else is told, the law returns true, and its arguments read as they did. -/
import Derived.Test.YtfoocgohjmlgoaaGreatDoorRows
import Derived.Test.YtfoocgohjmlgoaaGreatDoorNilWalk
import Derived.ProofKit
import Derived.LaidMore
import Derived.Lay
import Derived.OpenShut
import Derived.Stop.Joined
namespace Go.Proofs.YtfoocgohjmlgoaaGreatDoor
open Go Go.Eng
open Go.ChangeShapes Go.WideShapes Go.ChangeAt Go.RowKit

theorem Tryz.own : ownKnob Tryz.prog.godebug = none := by kernel_rfl
theorem Tryz.laidOut : laidOutB Tryz.prog = true := by kernel_rfl

theorem okCell_one {P : Program} {w : World} {r : Reach} {base : Nat} {t : TypeId} {v : Value} (h : Cell.okWide P w r base t v) : v.oneCell' = true := by
  unfold Cell.okWide at h
  split at h
  all_goals first | rfl | skip
  unfold Cell.ok at h
  split at h
  all_goals first | rfl | exact h.elim
theorem okCell_int {P : Program} {w : World} {r : Reach} {base : Nat} {t : TypeId} {v : Value} (ht : P.underlying t = some (.int .i64)) (h : Cell.okWide P w r base t v) : ∃ n, v = .int .i64 n := by
  unfold Cell.okWide at h
  rw [ht] at h
  unfold Cell.ok at h
  rw [ht] at h
  cases v <;> simp at h
  exact ⟨_, by rw [h.1]⟩

theorem okWide_rows {P : Program} {w : World} {r : Reach} {base : Nat} {t : TypeId} {v : Value} {fs : Array Field} (ht : P.underlying t = some (.struct fs)) (h : Value.okWide P w r base t v) : ∃ cs, v = .agg cs ∧ cs.size = P.cellsOf t ∧ Row.okWide P w r base t cs := by
  unfold Value.okWide at h
  rw [ht] at h
  exact h

theorem act_rows {P : Program} {w : World} {r : Reach} {base : Nat} {t i : TypeId} {v : Value} {fs : Array Field} {us : List TypeId} {m : Nat} (ht : P.underlying t = some (.struct fs)) (hu : P.cellTypes P.depth t = some (i :: us)) (hn : P.cellsOf t = m + 1)
    (hi : P.underlying i = some (.int .i64)) (h : Value.okWide P w r base t v) : ∃ (n : Int) (cs : List Value), v = .agg (.int .i64 n :: cs).toArray ∧ cs.length = m ∧ ∀ u ∈ cs, u.oneCell' = true := by
  obtain ⟨cs, rfl, hsz, ts, hts, _, hc⟩ := okWide_rows ht h
  obtain rfl := Option.some.inj (hu.symm.trans hts)
  rw [hn] at hsz
  match hl : cs.toList, hsz with
  | [], hsz => simp [← Array.length_toList, hl] at hsz
  | x :: l, hsz =>
    have hlen : l.length = m := by
      have : (x :: l).length = m + 1 := by rw [← hl]; simpa using hsz
      simpa using this
    have e0 : cs[0]? = some x := by rw [← Array.getElem?_toList, hl]; rfl
    obtain ⟨u, hu, hok⟩ := hc 0 x e0
    obtain rfl : i = u := by simpa using hu
    obtain ⟨n, rfl⟩ := okCell_int hi hok
    refine ⟨n, l, ?_, hlen, fun v hv => ?_⟩
    · rw [← hl]
    · obtain ⟨i, hi⟩ := List.getElem?_of_mem hv
      obtain ⟨u, _, hok⟩ := hc (i + 1) v (by rw [← Array.getElem?_toList, hl]; simpa using hi)
      exact okCell_one hok
theorem known_rows {P : Program} {w : World} {r : Reach} {base : Nat} {t : TypeId} {v : Value} {fs : Array Field} {m : Nat} (ht : P.underlying t = some (.struct fs)) (hn : P.cellsOf t = m)
    (h : Value.okWide P w r base t v) : ∃ ds : List Value, v = .agg ds.toArray ∧ ds.length = m ∧ ∀ u ∈ ds, u.oneCell' = true := by
  obtain ⟨cs, rfl, hsz, ts, hts, _, hc⟩ := okWide_rows ht h
  rw [hn] at hsz
  refine ⟨cs.toList, by simp, by simpa using hsz, fun v hv => ?_⟩
  obtain ⟨i, hi⟩ := List.getElem?_of_mem hv
  obtain ⟨u, _, hok⟩ := hc i v (by rw [← Array.getElem?_toList]; exact hi)
  exact okCell_one hok

theorem cells26 : Tryz.prog.cellTypes Tryz.prog.depth 26 = some [3, 3, 3, 3, 3, 3, 9, 9, 24] := by kernel_rfl
theorem cellsOf26 : Tryz.prog.cellsOf 26 = 8 + 1 := by kernel_rfl
theorem cellsOf29 : Tryz.prog.cellsOf 29 = 3 := by kernel_rfl

set_option maxRecDepth 100000 in
theorem replicaNil_lifted (os : Os) (started : os.Started) (H : Type) (enc : TypeId × Value → H) :
    ReturnsInHanded {} Tryz.checked os 3 .any (fun w args => (Rows.replicaNilSpec.pre enc Tryz.prog Tryz.f3 [] false w args ∧ laidMetH Tryz.prog Rows.replicaNilRow.laid w) ∧ sizedMet enc Tryz.prog Tryz.f3 (OpenSpec.ofChange Rows.replicaNilSpec) false w args)
      (Rows.replicaNilSpec.post enc Tryz.prog Tryz.f3 false true false false) := by
  refine returnsInHanded_of_change_and (C := Tryz.checked) (X := fun w _ => laidMetH Tryz.prog Rows.replicaNilRow.laid w) (fun _ _ _ hh h => h.of_heap hh) Tryz.own started (by kernel_rfl) Tryz.func3
    (ChangeSpec.witness_shaped (enc := enc) (C := Tryz.checked) (os := os) (X := fun w _ => laidMetH Tryz.prog Rows.replicaNilRow.laid w) false (World.laidAll Tryz.prog os Rows.replicaNilRow.laid)
      #[.agg #[.int .i64 0, .int .i64 0, .int .i64 0, .int .i64 0, .int .i64 0, .int .i64 0, .string .empty, .string .empty, .slice none 0 0], .agg #[.slice none 0 0, .int .i64 0, .slice none 0 0]] 8 (World.laidAll_os _ _ _)
      (World.shaped_of_ZipB (by kernel_rfl) (by kernel_rfl)) (by kernel_rfl) (by kernel_rfl) (by kernel_rfl)
      (by rw [MakeChecks.laidMetH_plain _ _ _ (by kernel_rfl)]; exact laidMet_laidAll _ (by kernel_rfl) (by kernel_rfl))) ?_
  intro W base args ds gs before hval0 hW _ _ _ _
  have hval : ∀ (j : Nat) t v, Tryz.f3.params[j]? = some t → args[j]? = some v → Value.okWide Tryz.prog W .any base t v := hval0
  have hW' := hW
  obtain ⟨p, q, hA0, hV, rfl, hfz, hnd⟩ := hW
  have hA : DataW.TrodAll enc Tryz.prog W 0 (fun _ => true) true Tryz.f3.params.toList args.toList ds p := hA0
  rw [Tryz.params3] at hA hval
  obtain ⟨v0, v1, d0, d1, p0, p1, rfl, rfl, rfl, h0, h1⟩ := trodAll_two hA
  obtain ⟨rfl, rfl⟩ := trodVars_none hV
  have hlt : ∀ x ∈ p0 ++ p1, x.block < W.heap.size := fun x hx => by simpa using hW'.lt x (by simpa using hx)
  obtain ⟨n, cs, rfl, c1, c2⟩ := act_rows Tryz.underlying26 cells26 cellsOf26 Tryz.underlying3 (hval 0 26 v0 rfl rfl)
  obtain ⟨es, rfl, e1, e2⟩ := known_rows Tryz.underlying29 cellsOf29 (hval 1 29 v1 rfl rfl)
  clear hA0 hval0
  simp only [List.append_nil] at hW'
  refine (nil_calls c1 e1 c2 e2 W).mono fun e W' ⟨he, hb⟩ => ?_
  subst he
  have k0 := Below.trod Tryz.laidOut (by kernel_rfl) (of_decide_eq_true (by kernel_rfl)) h0 hb (fun x hx => hlt x (by simp [hx]))
  have k1 := Below.trod Tryz.laidOut (by kernel_rfl) (of_decide_eq_true (by kernel_rfl)) h1 hb (fun x hx => hlt x (by simp [hx]))
  refine ⟨_, rfl, _, _, _, [], p0 ++ p1, [], hW', ?_, ?_, rfl, hb.frame _, fun h => by cases h⟩
  · exact trodAll_mk1 (shut_bool Tryz.underlying4 true)
  · exact trodAll_mk2 k0 k1

#print axioms replicaNil_lifted
end Go.Proofs.YtfoocgohjmlgoaaGreatDoor

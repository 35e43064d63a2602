/- A change that came in: what it reads as. -/
import Derived.Test.YtkfkpiphbflokaaGreatDoorCh
import Derived.ProofKit
import Derived.LaidMore
import Derived.Lay
import Derived.OpenShut
import Derived.SizedLaws
import Derived.ChangeSlices
namespace Go.Proofs.YtkfkpiphbflokaaGreatDoor
open Go Go.Eng
open Go.ChangeShapes Go.WideShapes Go.ChangeAt Go.RowKit

theorem Tryz.own : ownKnob Tryz.prog.godebug = none := by kernel_rfl
theorem Tryz.laidOut : laidOutB Tryz.prog = true := by kernel_rfl
theorem cells26 : Tryz.prog.cellTypes Tryz.prog.depth 26 = some [3, 3, 3, 24, 3, 3, 3, 3, 3, 3, 3, 9, 9] := by kernel_rfl
theorem cellsOf26 : Tryz.prog.cellsOf 26 = 13 := by kernel_rfl

theorem okC_int {P : Program} {w : World} {r : Reach} {base : Nat} {t : TypeId} {v : Value} (ht : P.underlying t = some (.int .i64)) (h : Cell.okWide P w r base t v) : ∃ n, v = .int .i64 n := by
  unfold Cell.okWide at h
  rw [ht] at h
  unfold Cell.ok at h
  rw [ht] at h
  cases v <;> simp at h
  exact ⟨_, by rw [h.1]⟩
theorem okC_str {P : Program} {w : World} {r : Reach} {base : Nat} {t : TypeId} {v : Value} (ht : P.underlying t = some .string) (h : Cell.okWide P w r base t v) : ∃ s, v = .string s := by
  unfold Cell.okWide at h
  rw [ht] at h
  unfold Cell.ok at h
  rw [ht] at h
  cases v <;> simp at h
  exact ⟨_, rfl⟩
theorem okC_slice {P : Program} {w : World} {r : Reach} {base : Nat} {t e : TypeId} {v : Value} (ht : P.underlying t = some (.slice e)) (h : Cell.okWide P w r base t v) : ∃ a n c, v = .slice a n c := by
  unfold Cell.okWide at h
  rw [ht] at h
  try unfold Cell.ok at h
  try rw [ht] at h
  cases v <;> simp at h
  all_goals exact ⟨_, _, _, rfl⟩
theorem okWide_rows {P : Program} {w : World} {r : Reach} {base : Nat} {t : TypeId} {v : Value} {fs : Array Field} (ht : P.underlying t = some (.struct fs)) (h : Value.okWide P w r base t v) : ∃ cs, v = .agg cs ∧ cs.size = P.cellsOf t ∧ Row.okWide P w r base t cs := by
  unfold Value.okWide at h
  rw [ht] at h
  exact h

def Chg.setL (c : Chg) (l : List Int) : Chg := { c with l := l }
/-- The cells' shapes. -/
theorem change_shape {P : Program} {fs : Array Field} {el : TypeId} (u26 : P.underlying 26 = some (.struct fs)) (u3 : P.underlying 3 = some (.int .i64)) (u9 : P.underlying 9 = some .string) (u24 : P.underlying 24 = some (.slice el))
    (cells26 : P.cellTypes P.depth 26 = some [3, 3, 3, 24, 3, 3, 3, 3, 3, 3, 3, 9, 9]) (cellsOf26 : P.cellsOf 26 = 13) {w : World} {r : Reach} {base : Nat} {v : Value} (h : Value.okWide P w r base 26 v) : ∃ (c : Chg) (n : Nat), v = .agg #[.int .i64 c.own.c, .int .i64 c.own.r, .int .i64 c.seq, .slice c.A n c.cap, .int .i64 c.kind, .int .i64 c.node.c, .int .i64 c.node.r, .int .i64 c.par.c, .int .i64 c.par.r, .int .i64 c.aft.c, .int .i64 c.aft.r, .string c.name, .string c.value] := by
  obtain ⟨cs, rfl, hsz, ts, hts, _, hc⟩ := okWide_rows u26 h
  obtain rfl := Option.some.inj (cells26.symm.trans hts)
  rw [cellsOf26] at hsz
  have at' : ∀ i (hi : i < 13), ∃ x, cs[i]? = some x := fun i hi => ⟨_, Array.getElem?_eq_getElem (by omega)⟩
  obtain ⟨x0, e0⟩ := at' 0 (by omega)
  obtain ⟨x1, e1⟩ := at' 1 (by omega)
  obtain ⟨x2, e2⟩ := at' 2 (by omega)
  obtain ⟨x3, e3⟩ := at' 3 (by omega)
  obtain ⟨x4, e4⟩ := at' 4 (by omega)
  obtain ⟨x5, e5⟩ := at' 5 (by omega)
  obtain ⟨x6, e6⟩ := at' 6 (by omega)
  obtain ⟨x7, e7⟩ := at' 7 (by omega)
  obtain ⟨x8, e8⟩ := at' 8 (by omega)
  obtain ⟨x9, e9⟩ := at' 9 (by omega)
  obtain ⟨x10, e10⟩ := at' 10 (by omega)
  obtain ⟨x11, e11⟩ := at' 11 (by omega)
  obtain ⟨x12, e12⟩ := at' 12 (by omega)
  have int : ∀ (i : Nat) (x : Value) (_ : cs[i]? = some x) (_ : ([3, 3, 3, 24, 3, 3, 3, 3, 3, 3, 3, 9, 9] : List Nat)[i % ([3, 3, 3, 24, 3, 3, 3, 3, 3, 3, 3, 9, 9] : List Nat).length]? = some 3), ∃ n, x = .int .i64 n := fun i x hx hi => by
    obtain ⟨u, hu, hok⟩ := hc i x hx
    obtain rfl := Option.some.inj (hi.symm.trans hu)
    exact okC_int u3 hok
  have str : ∀ (i : Nat) (x : Value) (_ : cs[i]? = some x) (_ : ([3, 3, 3, 24, 3, 3, 3, 3, 3, 3, 3, 9, 9] : List Nat)[i % ([3, 3, 3, 24, 3, 3, 3, 3, 3, 3, 3, 9, 9] : List Nat).length]? = some 9), ∃ n, x = .string n := fun i x hx hi => by
    obtain ⟨u, hu, hok⟩ := hc i x hx
    obtain rfl := Option.some.inj (hi.symm.trans hu)
    exact okC_str u9 hok
  obtain ⟨n0, rfl⟩ := int 0 x0 e0 rfl
  obtain ⟨n1, rfl⟩ := int 1 x1 e1 rfl
  obtain ⟨n2, rfl⟩ := int 2 x2 e2 rfl
  obtain ⟨n4, rfl⟩ := int 4 x4 e4 rfl
  obtain ⟨n5, rfl⟩ := int 5 x5 e5 rfl
  obtain ⟨n6, rfl⟩ := int 6 x6 e6 rfl
  obtain ⟨n7, rfl⟩ := int 7 x7 e7 rfl
  obtain ⟨n8, rfl⟩ := int 8 x8 e8 rfl
  obtain ⟨n9, rfl⟩ := int 9 x9 e9 rfl
  obtain ⟨n10, rfl⟩ := int 10 x10 e10 rfl
  obtain ⟨s11, rfl⟩ := str 11 x11 e11 rfl
  obtain ⟨s12, rfl⟩ := str 12 x12 e12 rfl
  obtain ⟨u, hu, hok⟩ := hc 3 x3 e3
  obtain rfl := Option.some.inj ((rfl : ([3, 3, 3, 24, 3, 3, 3, 3, 3, 3, 3, 9, 9] : List Nat)[3 % ([3, 3, 3, 24, 3, 3, 3, 3, 3, 3, 3, 9, 9] : List Nat).length]? = some 24).symm.trans hu)
  obtain ⟨A, n, k, rfl⟩ := okC_slice u24 hok
  refine ⟨⟨⟨n0, n1⟩, n2, A, k, [], n4, ⟨n5, n6⟩, ⟨n7, n8⟩, ⟨n9, n10⟩, s11, s12⟩, n, ?_⟩
  congr 1
  apply Array.ext_getElem?
  intro i
  rcases Nat.lt_or_ge i 13 with hi | hi
  · match i, hi with
    | 0, _ => exact e0
    | 1, _ => exact e1
    | 2, _ => exact e2
    | 3, _ => exact e3
    | 4, _ => exact e4
    | 5, _ => exact e5
    | 6, _ => exact e6
    | 7, _ => exact e7
    | 8, _ => exact e8
    | 9, _ => exact e9
    | 10, _ => exact e10
    | 11, _ => exact e11
    | 12, _ => exact e12
  · rw [Array.getElem?_eq_none (by omega), Array.getElem?_eq_none (by simpa using hi)]

theorem mapM_at {α β : Type} {F : α → Option β} : ∀ {l : List α} {xs : List β}, l.mapM F = some xs → ∀ (j : Nat) (a : α), l[j]? = some a → ∃ b, F a = some b ∧ xs[j]? = some b
  | [], _, _, j, a, h => by simp at h
  | x :: l, xs, h, j, a, ha => by
    simp only [List.mapM_cons, bind, Option.bind] at h
    cases hx : F x with
    | none => rw [hx] at h; cases h
    | some y =>
      rw [hx] at h
      simp only at h
      cases hl : l.mapM F with
      | none => rw [hl] at h; cases h
      | some ys =>
        rw [hl] at h
        simp only [pure, Option.some.injEq] at h
        subst h
        cases j with
        | zero => simp at ha; subst ha; exact ⟨y, hx, rfl⟩
        | succ j => simpa using mapM_at hl j a (by simpa using ha)

/-- A struct's field, read. -/
theorem field_read {H : Type} {enc : TypeId × Value → H} {P : Program} {w : World} {base : Nat} {sp : Nat → Bool} {held : Bool} {t : TypeId} {fs : Array Field} (ht : P.underlying t = some (.struct fs)) {cs : Array Value} {d : DataW H} {ps : List MemPlace}
    (h : DataW.Trod enc P w base sp held t (.agg cs) d ps) : ∃ parts : List (DataW H), d = .agg parts ∧ ∀ (j : Nat) (f : Field), fs.toList[j]? = some f → ∃ x q, parts[j]? = some x ∧ ∃ fuel, DataW.trod enc P w base sp held fuel f.type ((cs.toList.drop f.offset).take (P.cellsOf f.type)) = some (x, q) := by
  obtain ⟨fuel, hf⟩ := h
  cases fuel with
  | zero => cases hf
  | succ n =>
    unfold DataW.trod at hf
    rw [ht] at hf
    have hcs : (Value.agg cs).cells.toList = cs.toList := rfl
    rw [hcs] at hf
    simp only at hf
    split at hf
    · cases hm : fs.toList.mapM fun f => DataW.trod enc P w base sp held n f.type ((cs.toList.drop f.offset).take (P.cellsOf f.type)) with
      | none => rw [hm] at hf; cases hf
      | some xs =>
        rw [hm] at hf
        simp only [Option.map_some, Option.some.injEq, Prod.mk.injEq] at hf
        obtain ⟨rfl, _⟩ := hf
        refine ⟨_, rfl, fun j f hj => ?_⟩
        obtain ⟨b, hb, hx⟩ := mapM_at hm j f hj
        exact ⟨b.1, b.2, by rw [List.getElem?_map, hx]; rfl, n, hb⟩
    · cases hf

theorem open_change {H : Type} {enc : TypeId × Value → H} {P : Program} {fs : Array Field} (u26 : P.underlying 26 = some (.struct fs)) (u3 : P.underlying 3 = some (.int .i64)) (u9 : P.underlying 9 = some .string) (u24 : P.underlying 24 = some (.slice 3))
    (hc26 : P.cellTypes P.depth 26 = some [3, 3, 3, 24, 3, 3, 3, 3, 3, 3, 3, 9, 9]) (hn26 : P.cellsOf 26 = 13) (n3 : P.cellsOf 3 = 1) (b3 : P.bytesOf 3 = 8) (n24 : P.cellsOf 24 = 1) (n9 : P.cellsOf 9 = 1)
    (f2 : ∃ f, fs.toList[2]? = some f ∧ f.type = 24 ∧ f.offset = 3) (f7 : ∃ f, fs.toList[7]? = some f ∧ f.type = 9 ∧ f.offset = 11)
    {w : World} {r : Reach} {b0 : Nat} {v : Value} {d : DataW H} {ps : List MemPlace} (hv : Value.okWide P w r b0 26 v) (h : DataW.Trod enc P w 0 (fun _ => true) true 26 v d ps) {ts : List TypeId} {ds : List (DataW H)} {j : Nat}
    (hsz : (DataW.weightsEach P ts ds).all (· ≤ reachBytes) = true) (htj : ts[j]? = some 26) (hdj : ds[j]? = some d) : ∃ c : Chg, v = c.val ∧ c.In w ∧ c.Nil := by
  obtain ⟨c, n, rfl⟩ := change_shape u26 u3 u9 u24 hc26 hn26 hv
  obtain ⟨parts, rfl, hp⟩ := field_read u26 h
  have hsz2 : (DataW.weightsEach P (fs.toList.map (·.type)) parts).all (· ≤ reachBytes) = true := by
    refine List.all_eq_true.2 fun x hx => List.all_eq_true.1 hsz x (DataW.weights_mem_each htj hdj x ?_)
    unfold DataW.weights
    rw [u26]
    exact hx
  obtain ⟨g2, k2, t2, o2⟩ := f2
  obtain ⟨x2, q2, p2, fuel2, r2⟩ := hp 2 g2 k2
  rw [t2, o2, n24] at r2
  obtain ⟨g7, k7, t7, o7⟩ := f7
  obtain ⟨x7, q7, p7, fuel7, r7⟩ := hp 7 g7 k7
  rw [t7, o7, n9] at r7
  have hname : c.name.size ≤ 140737488351232 := by
    cases fuel7 with
    | zero => cases r7
    | succ m =>
      unfold DataW.trod at r7
      rw [u9] at r7
      simp at r7
      obtain ⟨_, rfl, _⟩ := r7
      have := sized_string hsz2 (j := 7) (t := 9) (by rw [List.getElem?_map, k7]; simp [t7]) p7
      simp at this
      unfold reachBytes at this
      omega
  rcases open_ints u24 u3 n3 r2 with ⟨hcs, hx⟩ | ⟨a, l, k, zs, hcs, _, hl, _, hz, hx, hcell, _⟩
  · simp at hcs
    obtain ⟨e1, rfl, e3⟩ := hcs
    refine ⟨c.setL [], ?_, ⟨fun i hi => by simp [Chg.setL] at hi, by simp [Chg.setL], hname⟩, fun _ => ⟨rfl, e3⟩⟩
    rfl
  · simp at hcs
    obtain ⟨e1, rfl, e3⟩ := hcs
    subst e3
    have hzl : zs.length = c.cap := by rw [hz]; simp
    obtain ⟨rfl, _⟩ := Prod.mk.inj hx
    have z := sized_slice hsz2 (j := 2) (t := 24) (e := 3) (by rw [List.getElem?_map, k2]; simp [t2]) p2 u24
    rw [b3] at z
    have h1 : (lits (H := H) .i64 (zs.take n)).length + (lits (H := H) .i64 (zs.drop n)).length = zs.length := by
      simp [lits]
      omega
    rw [h1] at z
    unfold reachBytes at z
    have hl3 : (zs.take n).length = n := by rw [List.length_take]; omega
    refine ⟨c.setL (zs.take n), ?_, ⟨fun i hi => ?_, ?_, hname⟩, fun hA => by have : c.A = none := hA; rw [e1] at this; cases this⟩
    · show _ = Value.agg #[_, _, _, .slice c.A (zs.take n).length c.cap, _, _, _, _, _, _, _, _, _]
      rw [hl3]; rfl
    · have hi' : i < n := by
        have : i < (zs.take n).length := hi
        omega
      have hcl := hcell i (by omega)
      have hspot : a.spot = none := by
        have h0 := hcell 0 (by omega)
        rw [show a.add 0 = a by simp [Addr.add]] at h0
        unfold World.cell? at h0
        split at h0
        · split at h0
          · cases h0
          · rename_i hns
            cases hs : a.spot with
            | none => rfl
            | some x => exact absurd (by simp [hs]) hns
        · cases h0
      obtain ⟨ab, ao, asp⟩ := a
      simp only at hspot
      subst hspot
      refine ⟨ab, ao, e1, ?_⟩
      have hg : (zs.take n).getD i 0 = zs.getD i 0 := by
        rw [List.getD_eq_getElem?_getD, List.getD_eq_getElem?_getD, List.getElem?_take, if_pos hi']
      show w.cell? ⟨ab, ao + i, none⟩ = some (.int .i64 ((zs.take n).getD i 0))
      rw [hg, ← hcl]
      by_cases h0 : i = 0
      · subst h0; rfl
      · simp [Addr.add, h0]
    · show (zs.take n).length ≤ 17592186044416
      omega
end Go.Proofs.YtkfkpiphbflokaaGreatDoor

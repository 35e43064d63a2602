/- What the tables of the three stamps say is so, of any change. -/
import Derived.Test.YtkfkpiphbflokaaGreatDoorDs
namespace Go.Proofs.YtkfkpiphbflokaaGreatDoor
open Go Go.Eng Go.RowKit
set_option linter.unusedSectionVars false

theorem inst_stp [Sig] (c : Chg) (hs : ∀ i, i < 13 → Sig.val i = c.cells.getD i (.bool false)) {p : Nat} (hp : p < 3) : inst (stp (5 + 2 * p)) = (c.stOf p).val := by
  match p, hp with
  | 0, _ => show Value.agg #[Sig.val 5, Sig.val 6] = _; rw [hs 5 (by omega), hs 6 (by omega)]; rfl
  | 1, _ => show Value.agg #[Sig.val 7, Sig.val 8] = _; rw [hs 7 (by omega), hs 8 (by omega)]; rfl
  | 2, _ => show Value.agg #[Sig.val 9, Sig.val 10] = _; rw [hs 9 (by omega), hs 10 (by omega)]; rfl
theorem inst_own [Sig] (c : Chg) (hs : ∀ i, i < 13 → Sig.val i = c.cells.getD i (.bool false)) : inst (stp 0) = c.own.val := by
  show Value.agg #[Sig.val 0, Sig.val 1] = _; rw [hs 0 (by omega), hs 1 (by omega)]; rfl
theorem fine_stp (i : Nat) : symOnly (stp i) = true := by
  show (List.all [sy i, sy (i + 1)] symOnly0) = true
  have : ∀ n, symOnly0 (sy n) = true := fun n => by
    show Nat.beq ((2 * n + 1) % 2) 1 = true
    rw [show (2 * n + 1) % 2 = 1 by omega]; rfl
  simp [this]

abbrev HasFn (f : FuncId) : Prop := ∃ fn, Tryz.prog.funcs[f]? = some fn ∧ (fn.name == "runtime.NumGoroutine") = false ∧ fn.body.isNone = false
theorem has16 : HasFn 16 := ⟨_, Tryz.func16, by kernel_rfl, by kernel_rfl⟩
theorem has22 : HasFn 22 := ⟨_, Tryz.func22, by kernel_rfl, by kernel_rfl⟩
theorem has52 : HasFn 52 := ⟨_, Tryz.func52, by kernel_rfl, by kernel_rfl⟩
theorem has9 : HasFn 9 := ⟨_, Tryz.func9, by kernel_rfl, by kernel_rfl⟩
theorem has8 : HasFn 8 := ⟨_, Tryz.func8, by kernel_rfl, by kernel_rfl⟩
theorem has5 : HasFn 5 := ⟨_, Tryz.func5, by kernel_rfl, by kernel_rfl⟩
theorem has6 : HasFn 6 := ⟨_, Tryz.func6, by kernel_rfl, by kernel_rfl⟩
theorem has7 : HasFn 7 := ⟨_, Tryz.func7, by kernel_rfl, by kernel_rfl⟩

section
variable [Sig] (c : Chg) (hs : ∀ i, i < 13 → Sig.val i = c.cells.getD i (.bool false))
include hs

abbrev FixOK (e : FuncId × List Value × Value) : Prop := e.2.1.all symOnly = true ∧ HasFn e.1 ∧ CallOK Tryz.prog e.1 e.2.1 e.2.2
theorem one_ok {f : FuncId} (hf : HasFn f) {p : Nat} (hp : p < 3) {b : Bool} (h : ∀ w, Ans Tryz.prog f #[(c.stOf p).val] (.bool b) w) : FixOK (f, [stp (5 + 2 * p)], .bool b) :=
  ⟨by simp [fine_stp], hf, CallOK.of rfl fun w _ => by
    show Calls Tryz.prog f #[inst (stp (5 + 2 * p))] w _
    rw [inst_stp c hs hp]; exact h w⟩
theorem two_ok {f : FuncId} (hf : HasFn f) {p q : Nat} (hp : p < 3) (hq : q < 3) {v : Value} (hv : symOnly v = true) (hi : inst v = v) (h : ∀ w, Ans Tryz.prog f #[(c.stOf p).val, (c.stOf q).val] v w) : FixOK (f, [stp (5 + 2 * p), stp (5 + 2 * q)], v) :=
  ⟨by simp [fine_stp], hf, CallOK.of hv fun w _ => by
    show Calls Tryz.prog f #[inst (stp (5 + 2 * p)), inst (stp (5 + 2 * q))] w _
    rw [inst_stp c hs hp, inst_stp c hs hq, hi]; exact h w⟩
theorem rightT_ok {f : FuncId} (hf : HasFn f) (hany : ∀ s w, Ans Tryz.prog f #[St.val s] (.bool s.right) w) : ∀ e ∈ rightT f c.desc, FixOK e := by
  intro e he
  obtain ⟨i, hi, rfl⟩ := List.mem_map.1 he
  obtain ⟨p, hp, rfl⟩ := base_of hi
  rw [ent_desc c hp, right_ent c hp]
  exact one_ok c hs hf hp fun w => hany _ w
omit hs in
theorem pairs_of {p : Nat × Nat} (h : p ∈ pairs c.desc) : ∃ i j, i < 3 ∧ j < 3 ∧ p = (5 + 2 * i, 5 + 2 * j) ∧ Nat.ble 2 (entB c.b12 i) = true ∧ Nat.ble 2 (entB c.b12 j) = true := by
  unfold pairs at h
  obtain ⟨a, ha, h⟩ := List.mem_flatMap.1 h
  obtain ⟨b, hb, rfl⟩ := List.mem_map.1 h
  obtain ⟨i, hi, rfl, h1⟩ := kept_of c ha
  obtain ⟨j, hj, rfl, h2⟩ := kept_of c hb
  exact ⟨i, j, hi, hj, rfl, h1, h2⟩
theorem cmpT_ok : ∀ e ∈ cmpT c.desc, FixOK e := by
  intro e he
  obtain ⟨p, hp, rfl⟩ := List.mem_map.1 he
  obtain ⟨i, j, hi, hj, rfl, h1, h2⟩ := pairs_of c hp
  rw [ent_desc c hi, ent_desc c hj, cmp_ent c hi hj h1 h2]
  exact two_ok c hs has52 hi hj rfl rfl fun w => cmp_any _ _ w
theorem lessT_ok : ∀ e ∈ lessT c.desc, FixOK e := by
  intro e he
  obtain ⟨p, hp, rfl⟩ := List.mem_map.1 he
  obtain ⟨i, j, hi, hj, rfl, h1, h2⟩ := pairs_of c hp
  rw [ent_desc c hi, ent_desc c hj, (pair_ent c hi hj h1 h2).1]
  exact two_ok c hs has9 hi hj rfl rfl fun w => rLess_any _ _ w

abbrev FixBOK (e : Key × Value) : Prop := e.1.fine = true ∧ symOnly e.2 = true ∧ KeyOK Tryz.prog e.1 e.2
theorem ownT_ok : ∀ e ∈ ownT c.desc, FixBOK e := by
  intro e he
  obtain ⟨i, hi, rfl⟩ := List.mem_map.1 he
  obtain ⟨p, hp, rfl, h1⟩ := known_of c hi
  rw [ent_desc c hp]
  refine ⟨by simp [Key.fine, fine_stp], rfl, key_neq ⟨rfl, rfl⟩ (inst_stp c hs hp) (inst_own c hs) ?_⟩
  exact own_ent c hp h1
theorem eqT_ok : ∀ e ∈ eqT c.desc, FixBOK e := by
  intro e he
  obtain ⟨p, hp, rfl⟩ := List.mem_map.1 he
  obtain ⟨i, j, hi, hj, rfl, h1, h2⟩ := pairs_of c hp
  rw [ent_desc c hi, ent_desc c hj, (pair_ent c hi hj h1 h2).2]
  exact ⟨by simp [Key.fine, fine_stp], rfl, key_eql ⟨rfl, rfl⟩ (inst_stp c hs hi) (inst_stp c hs hj) rfl⟩
theorem neT_ok : ∀ e ∈ neT c.desc, FixBOK e := by
  intro e he
  obtain ⟨p, hp, rfl⟩ := List.mem_map.1 he
  obtain ⟨i, j, hi, hj, rfl, h1, h2⟩ := pairs_of c hp
  rw [ent_desc c hi, ent_desc c hj, (pair_ent c hi hj h1 h2).2]
  exact ⟨by simp [Key.fine, fine_stp], rfl, key_neq ⟨rfl, rfl⟩ (inst_stp c hs hi) (inst_stp c hs hj) (Bool.not_not _).symm⟩
theorem same_ok : PrimsOK Tryz.prog [(104, .same)] := by
  intro f k h
  simp only [List.mem_singleton, Prod.mk.injEq] at h
  obtain ⟨rfl, rfl⟩ := h
  exact .same Tryz.f104 Tryz.func104 (by kernel_rfl) (by kernel_rfl) (by kernel_rfl) (by kernel_rfl)
theorem qN_ok (β : Nat → Bool) : QsOK Tryz.prog (qN c.desc) β :=
  ⟨nil_all, nil_all, fun e he => by
      rcases List.mem_append.1 he with he | he
      · exact ownT_ok c hs e he
      · rcases List.mem_append.1 he with he | he
        · exact eqT_ok c hs e he
        · exact neT_ok c hs e he,
    fun e he => by
      rcases List.mem_append.1 he with he | he
      · exact rightT_ok c hs has16 (fun s w => right_any s w) e he
      · exact cmpT_ok c hs e he, nil_all, same_ok c hs⟩
end

theorem prims_none {l : List (FuncId × Ext)} {f : FuncId} (h : ∀ e ∈ l, e.1 ≠ f) : prims Tryz.prog l f = none := by
  induction l with
  | nil => rfl
  | cons e l ih =>
    obtain ⟨g, k⟩ := e
    have : Nat.beq g f = false := beq_of_ne (h (g, k) (List.mem_cons_self ..))
    simp only [prims, this, cond_false]
    exact ih fun e he => h e (List.mem_cons_of_mem _ he)
theorem primsL_none {q : Qs} {acc : Acc} {f : FuncId} (h1 : ∀ e ∈ q.exts, e.1 ≠ f) (h2 : ∀ e ∈ q.calls, e.1 ≠ f) (h3 : ∀ e ∈ q.fixC, e.1 ≠ f) : prims Tryz.prog (q.primsL acc) f = none := by
  refine prims_none fun e he => ?_
  unfold Qs.primsL at he
  rcases List.mem_append.1 he with he | he
  · exact h1 e he
  · obtain ⟨g, hg, rfl⟩ := List.mem_map.1 he
    unfold Qs.hooked at hg
    rcases List.mem_append.1 hg with hg | hg
    · obtain ⟨x, hx, rfl⟩ := List.mem_map.1 hg; exact h2 x hx
    · obtain ⟨x, hx, rfl⟩ := List.mem_map.1 hg; exact h3 x hx
theorem rightT_fst {f : FuncId} {d : List Nat} {e : FuncId × List Value × Value} (h : e ∈ rightT f d) : e.1 = f := by
  obtain ⟨i, _, rfl⟩ := List.mem_map.1 h; rfl
theorem cmpT_fst {d : List Nat} {e : FuncId × List Value × Value} (h : e ∈ cmpT d) : e.1 = 52 := by
  obtain ⟨i, _, rfl⟩ := List.mem_map.1 h; rfl
theorem lessT_fst {d : List Nat} {e : FuncId × List Value × Value} (h : e ∈ lessT d) : e.1 = 9 := by
  obtain ⟨i, _, rfl⟩ := List.mem_map.1 h; rfl
theorem qN_prims (d : List Nat) {f : FuncId} (h : f ≠ 104 ∧ f ≠ 16 ∧ f ≠ 52) : prims Tryz.prog ((qN d).primsL []) f = none :=
  primsL_none (fun e he => by
      obtain rfl : e = (104, .same) := by simpa [qN] using he
      exact fun h' => h.1 h'.symm) nil_all fun e he => by
    rcases List.mem_append.1 he with he | he
    · rw [rightT_fst he]; exact fun h' => h.2.1 h'.symm
    · rw [cmpT_fst he]; exact fun h' => h.2.2 h'.symm
end Go.Proofs.YtkfkpiphbflokaaGreatDoor

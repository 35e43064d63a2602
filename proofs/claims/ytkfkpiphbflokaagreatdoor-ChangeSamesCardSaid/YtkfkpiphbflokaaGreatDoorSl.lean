/- topiarylaw05.ChangeSames answers true, of every two changes that can be read. -/
import Derived.Test.YtkfkpiphbflokaaGreatDoorFt
import Derived.Test.YtkfkpiphbflokaaGreatDoorAw
import Derived.Test.YtkfkpiphbflokaaGreatDoorSc
import Derived.Test.YtkfkpiphbflokaaGreatDoorCy
import Derived.Test.YtkfkpiphbflokaaGreatDoorSr1
import Derived.Test.YtkfkpiphbflokaaGreatDoorSr2
import Derived.Test.YtkfkpiphbflokaaGreatDoorSr3
namespace Go.Proofs.YtkfkpiphbflokaaGreatDoor
open Go Go.Eng Go.RowKit

theorem has32 : HasFn 32 := ⟨_, Tryz.func32, by kernel_rfl, by kernel_rfl⟩
theorem has11 : HasFn 11 := ⟨_, Tryz.func11, by kernel_rfl, by kernel_rfl⟩
theorem has13 : HasFn 13 := ⟨_, Tryz.func13, by kernel_rfl, by kernel_rfl⟩
def qCLess : Qs := { q0 with fixC := [(32, [stp 0, stp 13], sy 26)] }
set_option maxRecDepth 100000 in
theorem cLess_run : checkT Tryz.prog qCLess 30 13 [chg, chgB] (.leaf (sy 26)) [] = true := by kernel_rfl
theorem cLess_any (a b : Chg) (w : World) : Ans Tryz.prog 13 #[a.val, b.val] (.bool (a.own.lt b.own)) w := by
  letI : Sig := sig2 a b [.bool (a.own.lt b.own)] rfl w
  have ok : QsOK Tryz.prog qCLess (fun _ => false) := ⟨nil_all, nil_all, nil_all, allOf_mem ⟨⟨rfl, has32, CallOK.of rfl fun w _ => less_any a.own b.own w⟩, trivial⟩, nil_all, noExts⟩
  exact tree_calls ok mixed Tryz.func13 (args := [chg, chgB]) rfl (fun _ => rfl) w (.refl _ w) (Nat.le_refl _) (t := .leaf (sy 26)) (acc := []) rfl (fun _ _ h => by cases h) cLess_run

theorem keyOK_boolSelf [Sig] {i : Nat} {b : Bool} (h : Sig.val i = .bool b) : KeyOK Tryz.prog ⟨.eql, 4, sy i, sy i⟩ (.bool true) := by
  intro x y w
  have e : inst (sy i) = .bool b := by
    show Sig.val ((2 * i + 1) / 2) = _
    rw [show (2 * i + 1) / 2 = i by omega]; exact h
  have ht : inst (.bool true) = .bool true := rfl
  rw [e, ht]
  have h := run_equal_bool (P := Tryz.prog) w 4 b b Tryz.underlying4
  cases b <;> simp [eqGuard, binOp, h]

section
variable {φ : Emb} [Sig]
theorem row_inv {n : Nat} {v' : Value} (h : VRel φ (rowOf n) v') : ∃ pl c', φ n = some pl ∧ v' = .slice (some ⟨pl.blk, pl.off, none⟩) pl.n c' := by
  unfold rowOf at h
  generalize hv : Value.chan (some (4 * n + 4)) = v at h
  cases h <;> first | (cases hv; done) | skip
  · rename_i b'; simp at hv; omega
  · rename_i b' hp; simp at hv; omega
  · rename_i b' pl c' hb; simp at hv; obtain rfl : n = b' := by omega
    exact ⟨_, _, hb, rfl⟩
theorem sy_rel (c : Chg) (hs : ∀ i, i < 13 → Sig.val i = c.cells.getD i (.bool false)) (i : Nat) (hi : i < 13) : VRel φ (sy i) (c.cells.getD i (.bool false)) := hs i hi ▸ VRel.sym i
theorem sy_inv (c : Chg) (hs : ∀ i, i < 13 → Sig.val i = c.cells.getD i (.bool false)) {i : Nat} {v' : Value} (h : VRel φ (sy i) v') (hi : i < 13) : v' = c.cells.getD i (.bool false) := by
  have e := inst0_eq h (by show Nat.beq ((2 * i + 1) % 2) 1 = true; rw [show (2 * i + 1) % 2 = 1 by omega]; rfl)
  rw [e, ← hs i hi]
  show Sig.val ((2 * i + 1) / 2) = _
  rw [show (2 * i + 1) / 2 = i by omega]
theorem chgW_rel (c : Chg) (hs : ∀ i, i < 13 → Sig.val i = c.cells.getD i (.bool false)) {v v' : Value} (h : VRel φ v v') : VRel φ (chgW v) (c.valW v') :=
  have s := sy_rel (φ := φ) c hs
  .agg (.cons (s 0 (by omega)) (.cons (s 1 (by omega)) (.cons (s 2 (by omega)) (.cons h (.cons (s 4 (by omega)) (.cons (s 5 (by omega)) (.cons (s 6 (by omega)) (.cons (s 7 (by omega)) (.cons (s 8 (by omega)) (.cons (s 9 (by omega)) (.cons (s 10 (by omega)) (.cons (s 11 (by omega)) (.cons (s 12 (by omega)) .nil)))))))))))))
theorem chgW_inv (c : Chg) (hs : ∀ i, i < 13 → Sig.val i = c.cells.getD i (.bool false)) {v u : Value} (h : VRel φ (chgW v) u) : ∃ v', VRel φ v v' ∧ u = c.valW v' := by
  unfold chgW at h
  cases h with
  | agg h =>
    rename_i c'
    obtain ⟨l⟩ := c'
    rcases h with _ | ⟨h0, h⟩; rcases h with _ | ⟨h1, h⟩; rcases h with _ | ⟨h2, h⟩; rcases h with _ | ⟨h3, h⟩; rcases h with _ | ⟨h4, h⟩; rcases h with _ | ⟨h5, h⟩; rcases h with _ | ⟨h6, h⟩
    rcases h with _ | ⟨h7, h⟩; rcases h with _ | ⟨h8, h⟩; rcases h with _ | ⟨h9, h⟩; rcases h with _ | ⟨h10, h⟩; rcases h with _ | ⟨h11, h⟩; rcases h with _ | ⟨h12, h⟩
    cases h
    refine ⟨_, h3, ?_⟩
    rw [sy_inv c hs h0 (by omega), sy_inv c hs h1 (by omega), sy_inv c hs h2 (by omega), sy_inv c hs h4 (by omega), sy_inv c hs h5 (by omega), sy_inv c hs h6 (by omega), sy_inv c hs h7 (by omega), sy_inv c hs h8 (by omega), sy_inv c hs h9 (by omega), sy_inv c hs h10 (by omega), sy_inv c hs h11 (by omega), sy_inv c hs h12 (by omega)]
    rfl
end
theorem cond_some' {α : Type} {b : Bool} {x : Option α} {v : α} (h : cond b x none = some v) : b = true ∧ x = some v := by
  cases b with
  | true => exact ⟨rfl, h⟩
  | false => cases h

theorem copy_ok [Sig] (c : Chg) (hs : ∀ i, i < 13 → Sig.val i = c.cells.getD i (.bool false)) (hr : ∀ k, Sig.rows k = c.l.map (Value.int .i64)) (hlim : Sig.lim = Sig.old.heap.size) (hin : c.In Sig.old) (hn : c.Nil) : PrimOK Tryz.prog 12 (.hookH copyH) := by
  refine .hookH Tryz.f12 Tryz.func12 (by kernel_rfl) (by kernel_rfl) ?_
  intro args H H' v h w0 base φ w args' r ha
  match args, ha, h with
  | [x], ha, h =>
    obtain ⟨hx, h⟩ := cond_some' (b := sameV x chg) h
    cases sameV_eq hx
    injection h with h
    injection h with e1 e2
    subst e1; subst e2
    rcases ha with _ | ⟨h1, h2⟩; cases h2
    obtain ⟨v3, q, rfl⟩ := chgW_inv (v := sy 3) c hs h1
    have e3 := sy_inv c hs q (by omega)
    subst e3
    have hin' : c.In w := hin.later (hlim ▸ r.told)
    refine (copy_any c w hin' hn).mono ?_
    rintro e w' ⟨g, k, cs, rfl, hg, hcell, htake, hb⟩
    refine ⟨φ.add H.next ⟨g, 0, c.l.length, 1, 0⟩, _, Emb.le_add _ r.fresh, ?_, rfl, r.newOpq hb hg ?_⟩
    · exact chgW_rel c hs (.hsl H.next (pl := ⟨g, 0, c.l.length, 1, 0⟩) (Emb.add_same _ _ _))
    · refine ⟨by rw [hr]; simp, cs, 3, (0, 0), hcell, fun i v hv => ?_⟩
      rw [hr, ← htake, List.getElem?_take] at hv
      split at hv
      · simpa using hv
      · cases hv

theorem same2_ok [Sig] (a b : Chg) (ha : ∀ i, i < 13 → Sig.val i = a.cells.getD i (.bool false)) (hb : inst chgB = b.val) (h26 : Sig.val 26 = .bool (a.sameB b)) (hr : ∀ k, Sig.rows k = a.l.map (Value.int .i64)) (hlim : Sig.lim = Sig.old.heap.size) (hA : a.In Sig.old) (hB : b.In Sig.old) : PrimOK Tryz.prog 10 (.hookH sameH) := by
  refine .hookH Tryz.f10 Tryz.func10 (by kernel_rfl) (by kernel_rfl) ?_
  intro args H H' v h w0 base φ w args' r hargs
  match args, hargs, h with
  | [x, y], hargs, h =>
    obtain ⟨hx, hk⟩ := cond_some' (b := sameV x chg) h
    clear h
    have h := hk
    clear hk
    cases sameV_eq hx
    rcases hargs with _ | ⟨h1, h2⟩; rcases h2 with _ | ⟨h2, h3⟩; cases h3
    obtain ⟨v3, q, rfl⟩ := chgW_inv (v := sy 3) a ha h1
    have e3 := sy_inv a ha q (by omega)
    subst e3
    have hA' : a.In w := hA.later (hlim ▸ r.told)
    have hB' : b.In w := hB.later (hlim ▸ r.told)
    cases hy : sameV y chgB with
    | true =>
      rw [hy] at h
      injection h with h
      injection h with e1 e2
      subst e1; subst e2
      cases sameV_eq hy
      have e2 := inst_eq h2 (by rfl)
      rw [hb] at e2
      subst e2
      refine (same_any a b w hA' hB').mono ?_
      rintro e w' ⟨rfl, hb'⟩
      exact ⟨φ, _, .refl φ, h26 ▸ VRel.sym 26, rfl, r.grow hb'⟩
    | false =>
      rw [hy] at h
      simp only [cond_false] at h
      cases hn : rowNo y with
      | none => rw [hn] at h; cases h
      | some n =>
        rw [hn] at h
        obtain ⟨hyn, h⟩ := cond_some' (b := sameV y (chgW (rowOf n)) && isRow0 H n) h
        injection h with h
        injection h with e1 e2
        subst e1; subst e2
        rw [Bool.and_eq_true] at hyn
        cases sameV_eq hyn.1
        obtain ⟨v4, q4, rfl⟩ := chgW_inv a ha h2
        obtain ⟨pl, c', hpl, rfl⟩ := row_inv q4
        have hblk := r.blk n pl hpl
        have hg : H.get n = .opq 0 := by
          have := hyn.2
          unfold isRow0 at this
          split at this
          · assumption
          · cases this
        rw [hg] at hblk
        obtain ⟨hlen, cs, el, fz, hcell, hat⟩ := hblk
        rw [hr] at hlen hat
        rw [List.length_map] at hlen
        have hB2 : ({ a with A := some ⟨pl.blk, pl.off, none⟩, cap := c' } : Chg).In w := by
          refine ⟨fun i hi => ⟨pl.blk, pl.off, rfl, ?_⟩, hA'.big, hA'.nbig⟩
          rw [cell_of_row w pl.blk (pl.off + i) cs el fz hcell]
          refine hat i _ ?_
          have hi' : i < a.l.length := hi
          show (a.l.map (Value.int .i64))[i]? = some (.int .i64 (a.l.getD i 0))
          simp [hi']
        rw [hlen]
        refine (same_any a { a with A := some ⟨pl.blk, pl.off, none⟩, cap := c' } w hA' hB2).mono ?_
        rintro e w' ⟨rfl, hb'⟩
        rw [same_self a _ rfl]
        exact ⟨φ, _, .refl φ, .bool true, rfl, r.grow hb'⟩

theorem sames_all (c : Chg) : samesAt c.desc = true := by
  rcases List.mem_append.1 (desc_mem c) with h | h
  · exact List.all_eq_true.1 sames3 _ h
  · rcases List.mem_append.1 h with h | h
    · exact List.all_eq_true.1 sames2 _ h
    · rcases List.mem_append.1 h with h | h
      · exact List.all_eq_true.1 sames1 _ h
      · exact List.all_eq_true.1 sames0 _ h
theorem qS_prims (d : List Nat) (acc : Acc) : prims Tryz.prog ((qS d).primsL acc) 4 = none :=
  primsL_none (fun e he => by
      have : e = (104, .same) ∨ e = (12, .hookH copyH) ∨ e = (10, .hookH sameH) := by simpa [qS] using he
      rcases this with rfl | rfl | rfl <;> simp) nil_all fun e he => by
    rcases List.mem_cons.1 he with rfl | he
    · simp
    · rcases List.mem_cons.1 he with rfl | he
      · simp
      · rcases List.mem_cons.1 he with rfl | he
        · simp
        · rcases List.mem_cons.1 he with rfl | he
          · simp
          · rcases List.mem_append.1 he with he | he
            · rw [rightT_fst he]; simp
            · rcases List.mem_append.1 he with he | he
              · rw [rightT_fst he]; simp
              · rcases List.mem_append.1 he with he | he
                · rw [cmpT_fst he]; simp
                · rw [lessT_fst he]; simp

@[reducible] def sigS (a b : Chg) (w : World) : Sig := sigR (sig2 a b [.bool (a.sameB b), .bool (a.own.lt b.own)] rfl w) (fun _ => a.l.map (Value.int .i64))
theorem sames_any (a b : Chg) (w : World) (hA : a.In w) (hB : b.In w) (hN : a.Nil) : Ans Tryz.prog 4 #[a.val, b.val] (.bool true) w := by
  letI : Sig := sigS a b w
  have hs : ∀ i, i < 13 → Sig.val i = a.cells.getD i (.bool false) := (cells2_at a b _ _).1
  have ok : QsOK Tryz.prog (qS a.desc) (fun _ => false) := ⟨nil_all, nil_all, fun e he => by
      rcases List.mem_cons.1 he with rfl | he
      · exact ⟨rfl, rfl, keyOK_boolSelf (b := a.sameB b) rfl⟩
      · rcases List.mem_cons.1 he with rfl | he
        · exact ⟨rfl, rfl, keyOK_boolSelf (b := a.own.lt b.own) rfl⟩
        · rcases List.mem_append.1 he with he | he
          · exact ownT_ok a hs e he
          · rcases List.mem_append.1 he with he | he
            · exact eqT_ok a hs e he
            · exact neT_ok a hs e he,
    fun e he => by
      rcases List.mem_cons.1 he with rfl | he
      · exact ⟨rfl, has8, CallOK.of rfl fun w _ => awake_any w⟩
      · rcases List.mem_cons.1 he with rfl | he
        · exact ⟨rfl, has11, CallOK.of rfl fun w' hw' => rSame_any a b w' (hA.later hw') (hB.later hw')⟩
        · rcases List.mem_cons.1 he with rfl | he
          · exact ⟨rfl, has13, CallOK.of rfl fun w' _ => cLess_any a b w'⟩
          · rcases List.mem_cons.1 he with rfl | he
            · exact ⟨rfl, has9, CallOK.of rfl fun w' _ => rLess_any a.own b.own w'⟩
            · rcases List.mem_append.1 he with he | he
              · exact rightT_ok a hs has16 (fun s w => right_any s w) e he
              · rcases List.mem_append.1 he with he | he
                · exact rightT_ok a hs has22 (fun s w => rRight_any s w) e he
                · rcases List.mem_append.1 he with he | he
                  · exact cmpT_ok a hs e he
                  · exact lessT_ok a hs e he,
    nil_all, fun f k h => by
      have : (f, k) = (104, .same) ∨ (f, k) = (12, .hookH copyH) ∨ (f, k) = (10, .hookH sameH) := by simpa [qS] using h
      rcases this with h | h | h
      · exact same_ok a hs f k (by rw [h]; exact List.mem_singleton.2 rfl)
      · cases h; exact copy_ok a hs (fun _ => rfl) rfl hA hN
      · cases h; exact same2_ok a b hs rfl rfl (fun _ => rfl) rfl hA hB⟩
  exact tree_calls ok mixed Tryz.func4 (args := [chg, chgB]) rfl (fun acc => qS_prims _ acc) w (.refl _ w) (Nat.le_refl _) (t := .leaf (.bool true)) (acc := []) rfl (fun _ _ h => by cases h) (sames_all a)
end Go.Proofs.YtkfkpiphbflokaaGreatDoor

/- Part 5 of the proof: what the functions of the program hand back. -/
import Derived.Test.YtcnbffganikmfaaFn3
import Derived.WalkKit
import Derived.ProofKit
import Derived.OpenShut
import Derived.Carry
import Derived.ChangeSlices
set_option linter.unusedVariables false
set_option linter.unusedSimpArgs false
set_option maxRecDepth 10000
namespace Go.Proofs
open Go Go.Ev TryT


def backF (t : Tsk) (order : List Int) : Int × Bool :=
  match (legsL t order).find? (faulty t) with
  | some _ => (0, false)
  | none => ((legAt t order order.length).comes.2, true)

theorem c40 (t : Tsk) (vm vp : V) (tv : TaskV t vm vp) (order : List Int) (vo : V) (ho : SlOf vo (order.map int)) (ol : OkLegs t order) (σ : St) : Run TC (.app false (.func (.func 40) [] []) [taskV t vm vp, vo]) σ (.val (.tup [int (backF t order).1, .bool (backF t order).2])) σ := by
  have hlo := ol.len
  refine fn_pure (n := 31) (fn := Try.f40) rfl Try.func40 rfl rfl rfl ?_
  refine W_seq ?_
  refine W_region rfl ?_
  refine W_box rfl rfl rfl (ev_t rfl (by (conv => lhs; whnf) <;> rfl)) (by first | exact vcells_gr | exact vcells_rd | exact (SlOf.cells (by assumption)).1 | ((conv => lhs; whnf) <;> rfl)) fun b2 hb2 => ?_
  refine W_alloc rfl rfl rfl Z3 (fun t h => by cases h) (by (conv => lhs; whnf) <;> rfl) fun b4 hb4 => ?_
  refine W_alloc rfl rfl rfl Z4 (fun t h => by cases h) (by (conv => lhs; whnf) <;> rfl) fun b5 hb5 => ?_
  refine W_done ?_
  refine W_seq ?_
  refine W_seq ?_
  refine W_region rfl ?_
  refine W_pure rfl rfl (po_loadA (i := 2) (ev_t rfl (by (conv => lhs; whnf) <;> rfl)) K119 A119 T119 rfl rfl (by simp only [sub]; exact rfl)) ?_
  refine W_pure rfl rfl (po_move (ev_t rfl (by (conv => lhs; whnf) <;> rfl))) ?_
  refine W_callN2 rfl rfl rfl rfl rfl (evl_cons (ev_t rfl (by (conv => lhs; whnf) <;> rfl)) (evl_cons (ev_t rfl (by (conv => lhs; whnf) <;> rfl)) evl_nil)) (fun σ hz => c37 vm vp (int t.holds) (int t.leaves) (int t.back) vo ho.cells.1 ho.cells.2 σ) fun q1 q2 hq1 hq2 => ?_
  refine W_done ?_
  refine W_block ?_
  refine W_rangeI (S := Int × Bool) [3, 2] (fun ⟨a, b⟩ => [.cells 3 [int a], .cells 4 [.bool b]]) (0, false) (fun i ⟨a, b⟩ => b = false ∧ (a = if i = 0 then 0 else (legAt t order (i - 1)).comes.2) ∧ ∀ l ∈ (legsL t order).take i, faulty t l = false) (fun i e ⟨a, b⟩ => e = .ret ∧ (a, b) = backF t order) ((it85 t vm vp tv order vo ho ol q1 q2)) (ev_t rfl (by (conv => lhs; whnf) <;> rfl)) rfl (by intro l h; cases h) rfl (fun σ o hz => ⟨hz.getA (i := 0) rfl, hz.getA (i := 1) rfl⟩) rfl (need_new (ns := [0, 1]) rfl rfl rfl) (by simp [zsets, zset, grSl_nilT, grSl_nilF]) (by simp) (by simp) (⟨rfl, rfl, by simp⟩) ?_ ?_ ?_
  · rintro i xv ⟨a, b⟩ lr σl frl hv0 hI0
    obtain ⟨hl0, rfl, hil⟩ := legs_of hv0
    obtain ⟨rfl, ha, hbef⟩ := hI0
    have hto := toAt_ok ol.within i
    refine W_eqZ (by simp only [zsets, zset]; exact rfl) ?_
    refine W_region rfl ?_
    refine W_alloc rfl rfl rfl Z125 (fun t h => by cases h) (by (conv => lhs; whnf) <;> rfl) fun b6 hb6 => ?_
    refine W_store (i := 0) rfl rfl rfl (ev_t rfl (by (conv => lhs; whnf) <;> rfl)) (ev_t rfl (by (conv => lhs; whnf) <;> rfl)) rfl (by first | exact vcells_gr | exact vcells_rd | exact (SlOf.cells (by assumption)).1 | ((conv => lhs; whnf) <;> rfl)) T125 rfl rfl (by first | rfl | (simp only [List.all_cons, List.all_nil, vcells, tv.cm, tv.cp]; rfl) | (simp; done) | (simp [cellOK]; done)) (by simp only [wr]; exact rfl) (by simp only [zset]; exact rfl) ?_
    refine W_done ?_
    refine endsA_of (by simp) ?_
    refine W_block ?_
    refine W_seq ?_
    refine W_seq ?_
    refine W_drawI (cs := []) (gl := [0, 1, 2, 3, 4, 5, 6, 7, 8, 9, 10, 11, 12, 13, 14, 15]) [] (by simp only [zdrop, List.any_cons, List.any_nil, Nat.beq, Bool.or_false, cond_true, cond_false]; exact rfl) rfl rfl ?_
    refine DE_pureW (.cons_cons _ (.cons_cons _ (.cons_cons _ (.cons_cons _ (.cons_cons _ (.cons_cons _ .slnil)))))) (want_none rfl) rfl (po_fieldAddr (ev_t rfl (by (conv => lhs; whnf) <;> rfl)) F125_3 T3 (by (conv => lhs; whnf) <;> rfl)) ?_
    refine DE_pureW (.cons_cons _ (.cons_cons _ (.cons_cons _ (.cons_cons _ (.cons_cons _ (.cons_cons _ .slnil)))))) (want_none rfl) rfl (po_load (i := 0) (ev_t rfl (by (conv => lhs; whnf) <;> rfl)) K3 A3 rfl rfl) ?_
    refine DE_pureW (.cons_cons _ (.cons_cons _ (.cons_cons _ (.cons_cons _ (.cons_cons _ (.cons_cons _ .slnil)))))) (want_none rfl) rfl (po_fieldAddr (ev_t rfl (by (conv => lhs; whnf) <;> rfl)) F119_0 T40 (by (conv => lhs; whnf) <;> rfl)) ?_
    refine DE_pureW (.cons_cons _ (.cons_cons _ (.cons_cons _ (.cons_cons _ (.cons_cons _ (.cons_cons _ .slnil)))))) (want_none rfl) rfl (po_fieldAddr (ev_t rfl (by (conv => lhs; whnf) <;> rfl)) F40_2 T3 (by (conv => lhs; whnf) <;> rfl)) ?_
    refine DE_pureW (.cons_cons _ (.cons_cons _ (.cons_cons _ (.cons_cons _ (.cons_cons _ (.cons_cons _ .slnil)))))) (want_none rfl) rfl (po_load (i := 5) (ev_t rfl (by (conv => lhs; whnf) <;> rfl)) K3 A3 rfl rfl) ?_
    refine DE_pureW (.cons_cons _ (.cons_cons _ (.cons_cons _ (.cons_cons _ (.cons_cons _ (.cons_cons _ .slnil)))))) (want_none rfl) rfl (po_bin (ev_t rfl (by (conv => lhs; whnf) <;> rfl)) (ev_t rfl (by (conv => lhs; whnf) <;> rfl)) (by (conv => lhs; whnf) <;> rfl)) ?_
    refine DE_pureW (.cons_cons _ (.cons_cons _ (.cons_cons _ (.cons_cons _ (.cons_cons _ (.cons_cons _ .slnil)))))) (want_none rfl) rfl (po_move (ev_t rfl (by (conv => lhs; whnf) <;> rfl))) ?_
    refine DE_split (t := 17) (by (conv => lhs; whnf) <;> rfl) (fun g1 => ?_) (fun g1 => ?_)
    · (try simp only [decide_eq_true_eq, decide_eq_false_iff_not, beq_iff_eq, beq_eq_false_iff_ne, bne_iff_ne, ne_eq, bne_eq_false_iff_eq, Bool.not_eq_true', Bool.not_eq_false', Bool.not_eq_true, Bool.not_eq_false, Bool.not_false, Bool.not_true, not_lt, not_le, Int.not_lt, Int.not_le, Decidable.not_not] at g1); (try simp at g1)
      refine DE_idleW (.cons_cons _ (.cons_cons _ (.cons_cons _ (.cons_cons _ (.cons_cons _ (.cons_cons _ .slnil)))))) (want_no rfl rfl rfl rfl rfl) rfl ?_
      refine DE_idleW (.cons_cons _ (.cons_cons _ (.cons_cons _ (.cons_cons _ (.cons_cons _ (.cons_cons _ .slnil)))))) (want_no rfl rfl rfl rfl rfl) rfl ?_
      refine DE_idleW (.cons_cons _ (.cons_cons _ (.cons_cons _ (.cons_cons _ (.cons_cons _ (.cons_cons _ .slnil)))))) (want_no rfl rfl rfl rfl rfl) rfl ?_
      refine DE_idleW (.cons_cons _ (.cons_cons _ (.cons_cons _ (.cons_cons _ (.cons_cons _ (.cons_cons _ .slnil)))))) (want_no rfl rfl rfl rfl rfl) rfl ?_
      refine DE_idleW (.cons_cons _ (.cons_cons _ (.cons_cons _ (.cons_cons _ (.cons_cons _ (.cons_cons _ .slnil)))))) (want_no rfl rfl rfl rfl rfl) rfl ?_
      refine DE_idleW (.cons_cons _ (.cons_cons _ (.cons_cons _ (.cons_cons _ (.cons_cons _ (.cons_cons _ .slnil)))))) (want_no rfl rfl rfl rfl rfl) rfl ?_
      refine DE_idleW (.cons_cons _ (.cons_cons _ (.cons_cons _ (.cons_cons _ (.cons_cons _ (.cons_cons _ .slnil)))))) (want_no rfl rfl rfl rfl rfl) rfl ?_
      refine DE_idleW (.cons_cons _ (.cons_cons _ (.cons_cons _ (.cons_cons _ (.cons_cons _ (.cons_cons _ .slnil)))))) (want_no rfl rfl rfl rfl rfl) rfl ?_
      refine DE_pureW (.cons_cons _ (.cons_cons _ (.cons_cons _ (.cons_cons _ (.cons_cons _ (.cons_cons _ .slnil)))))) (want_none rfl) rfl (po_pickT (ev_t rfl (by (conv => lhs; whnf) <;> rfl)) rfl) ?_
      refine DE_nil (.cons_cons _ (.cons_cons _ (.cons_cons _ (.cons_cons _ (.cons_cons _ (.cons_cons _ .slnil)))))) ?_
      refine W_then (ev_t rfl (by (conv => lhs; whnf) <;> rfl)) ?_
      refine W_seq ?_
      refine W_region rfl ?_
      refine W_store (i := 4) rfl rfl rfl (ev_t rfl (by (conv => lhs; whnf) <;> rfl)) rfl rfl (by first | exact vcells_gr | exact vcells_rd | exact (SlOf.cells (by assumption)).1 | ((conv => lhs; whnf) <;> rfl)) T3 rfl rfl (by first | rfl | (simp only [List.all_cons, List.all_nil, vcells, tv.cm, tv.cp]; rfl) | (simp; done) | (simp [cellOK]; done)) (by simp only [wr]; exact rfl) (by simp only [zset]; exact rfl) ?_
      refine W_store (i := 3) rfl rfl rfl (ev_t rfl (by (conv => lhs; whnf) <;> rfl)) rfl rfl (by first | exact vcells_gr | exact vcells_rd | exact (SlOf.cells (by assumption)).1 | ((conv => lhs; whnf) <;> rfl)) T4 rfl rfl (by first | rfl | (simp only [List.all_cons, List.all_nil, vcells, tv.cm, tv.cp]; rfl) | (simp; done) | (simp [cellOK]; done)) (by simp only [wr]; exact rfl) (by simp only [zset]; exact rfl) ?_
      refine W_done ?_
      refine W_less (.cons _ (.cons_cons _ (.cons_cons _ (.cons_cons _ (.cons_cons _ (.cons_cons _ .slnil)))))) ?_
      exact endsB_ret (0, false) rfl (by simp [zsets, zset]) ⟨fun h => (by cases h), fun _ => ⟨rfl, by unfold backF; rw [find_first hl0 (by clear hbef ha; simp_all [faulty, full, legAt]) hbef]⟩⟩
    · (try simp only [decide_eq_true_eq, decide_eq_false_iff_not, beq_iff_eq, beq_eq_false_iff_ne, bne_iff_ne, ne_eq, bne_eq_false_iff_eq, Bool.not_eq_true', Bool.not_eq_false', Bool.not_eq_true, Bool.not_eq_false, Bool.not_false, Bool.not_true, not_lt, not_le, Int.not_lt, Int.not_le, Decidable.not_not] at g1); (try simp at g1)
      refine DE_pureW (.cons_cons _ (.cons_cons _ (.cons_cons _ (.cons_cons _ (.cons_cons _ (.cons_cons _ .slnil)))))) (want_yes rfl rfl rfl rfl rfl) rfl (po_fieldAddr (ev_t rfl (by (conv => lhs; whnf) <;> rfl)) F125_5 T33 (by (conv => lhs; whnf) <;> rfl)) ?_
      refine DE_pureW (.cons_cons _ (.cons_cons _ (.cons_cons _ (.cons_cons _ (.cons_cons _ (.cons_cons _ .slnil)))))) (want_yes rfl rfl rfl rfl rfl) rfl (po_fieldAddr (ev_t rfl (by (conv => lhs; whnf) <;> rfl)) F33_1 T3 (by (conv => lhs; whnf) <;> rfl)) ?_
      refine DE_pureW (.cons_cons _ (.cons_cons _ (.cons_cons _ (.cons_cons _ (.cons_cons _ (.cons_cons _ .slnil)))))) (want_yes rfl rfl rfl rfl rfl) rfl (po_load (i := 0) (ev_t rfl (by (conv => lhs; whnf) <;> rfl)) K3 A3 rfl rfl) ?_
      refine DE_pureW (.cons_cons _ (.cons_cons _ (.cons_cons _ (.cons_cons _ (.cons_cons _ (.cons_cons _ .slnil)))))) (want_yes rfl rfl rfl rfl rfl) rfl (po_loadA (i := 5) (ev_t rfl (by (conv => lhs; whnf) <;> rfl)) K119 A119 T119 rfl rfl (by simp only [sub]; exact rfl)) ?_
      refine DE_pureW (.cons_cons _ (.cons_cons _ (.cons_cons _ (.cons_cons _ (.cons_cons _ (.cons_cons _ .slnil)))))) (want_yes rfl rfl rfl rfl rfl) rfl (po_fieldAddr (ev_t rfl (by (conv => lhs; whnf) <;> rfl)) F125_2 T3 (by (conv => lhs; whnf) <;> rfl)) ?_
      refine DE_pureW (.cons_cons _ (.cons_cons _ (.cons_cons _ (.cons_cons _ (.cons_cons _ (.cons_cons _ .slnil)))))) (want_yes rfl rfl rfl rfl rfl) rfl (po_load (i := 0) (ev_t rfl (by (conv => lhs; whnf) <;> rfl)) K3 A3 rfl rfl) ?_
      refine DE_callW (.cons_cons _ (.cons_cons _ (.cons_cons _ (.cons_cons _ (.cons_cons _ (.cons_cons _ .slnil)))))) (want_yes rfl rfl rfl rfl rfl) rfl rfl rfl rfl (evl_cons (ev_t rfl (by (conv => lhs; whnf) <;> rfl)) (evl_cons (ev_t rfl (by (conv => lhs; whnf) <;> rfl)) evl_nil)) (fun σ hz => c38 t vm vp tv ol.body _ hto σ) ?_
      refine DE_pureW (.cons_cons _ (.cons_cons _ (.cons_cons _ (.cons_cons _ (.cons_cons _ (.cons_cons _ .slnil)))))) (want_yes rfl rfl rfl rfl rfl) rfl (po_bin (ev_t rfl (by (conv => lhs; whnf) <;> rfl)) (ev_t rfl (by (conv => lhs; whnf) <;> rfl)) (by (conv => lhs; whnf) <;> rfl)) ?_
      refine DE_pureW (.cons_cons _ (.cons_cons _ (.cons_cons _ (.cons_cons _ (.cons_cons _ (.cons_cons _ .slnil)))))) (want_none rfl) rfl (po_pickF (ev_t rfl (by (conv => lhs; whnf) <;> rfl)) (ev_t rfl (by (conv => lhs; whnf) <;> rfl))) ?_
      refine DE_nil (.cons_cons _ (.cons_cons _ (.cons_cons _ (.cons_cons _ (.cons_cons _ (.cons_cons _ .slnil)))))) ?_
      refine W_if (ev_t rfl (by (conv => lhs; whnf) <;> rfl)) (fun g1 => ?_) (fun g1 => ?_)
      · (try simp only [decide_eq_true_eq, decide_eq_false_iff_not, beq_iff_eq, beq_eq_false_iff_ne, bne_iff_ne, ne_eq, bne_eq_false_iff_eq, Bool.not_eq_true', Bool.not_eq_false', Bool.not_eq_true, Bool.not_eq_false, Bool.not_false, Bool.not_true, not_lt, not_le, Int.not_lt, Int.not_le, Decidable.not_not] at g1); (try simp at g1)
        refine W_seq ?_
        refine W_region rfl ?_
        refine W_store (i := 4) rfl rfl rfl (ev_t rfl (by (conv => lhs; whnf) <;> rfl)) rfl rfl (by first | exact vcells_gr | exact vcells_rd | exact (SlOf.cells (by assumption)).1 | ((conv => lhs; whnf) <;> rfl)) T3 rfl rfl (by first | rfl | (simp only [List.all_cons, List.all_nil, vcells, tv.cm, tv.cp]; rfl) | (simp; done) | (simp [cellOK]; done)) (by simp only [wr]; exact rfl) (by simp only [zset]; exact rfl) ?_
        refine W_store (i := 3) rfl rfl rfl (ev_t rfl (by (conv => lhs; whnf) <;> rfl)) rfl rfl (by first | exact vcells_gr | exact vcells_rd | exact (SlOf.cells (by assumption)).1 | ((conv => lhs; whnf) <;> rfl)) T4 rfl rfl (by first | rfl | (simp only [List.all_cons, List.all_nil, vcells, tv.cm, tv.cp]; rfl) | (simp; done) | (simp [cellOK]; done)) (by simp only [wr]; exact rfl) (by simp only [zset]; exact rfl) ?_
        refine W_done ?_
        refine W_less (.cons _ (.cons_cons _ (.cons_cons _ (.cons_cons _ (.cons_cons _ (.cons_cons _ .slnil)))))) ?_
        exact endsB_ret (0, false) rfl (by simp [zsets, zset]) ⟨fun h => (by cases h), fun _ => ⟨rfl, by unfold backF; rw [find_first hl0 (by clear hbef ha; simp_all [faulty, full, legAt]) hbef]⟩⟩
      · (try simp only [decide_eq_true_eq, decide_eq_false_iff_not, beq_iff_eq, beq_eq_false_iff_ne, bne_iff_ne, ne_eq, bne_eq_false_iff_eq, Bool.not_eq_true', Bool.not_eq_false', Bool.not_eq_true, Bool.not_eq_false, Bool.not_false, Bool.not_true, not_lt, not_le, Int.not_lt, Int.not_le, Decidable.not_not] at g1); (try simp at g1)
        refine W_skip ?_
        refine W_region rfl ?_
        refine W_pure rfl rfl (po_fieldAddr (ev_t rfl (by (conv => lhs; whnf) <;> rfl)) F125_5 T33 (by (conv => lhs; whnf) <;> rfl)) ?_
        refine W_pure rfl rfl (po_fieldAddr (ev_t rfl (by (conv => lhs; whnf) <;> rfl)) F33_1 T3 (by (conv => lhs; whnf) <;> rfl)) ?_
        refine W_pure rfl rfl (po_load (i := 0) (ev_t rfl (by (conv => lhs; whnf) <;> rfl)) K3 A3 rfl rfl) ?_
        refine W_store (i := 4) rfl rfl rfl (ev_t rfl (by (conv => lhs; whnf) <;> rfl)) (ev_t rfl (by (conv => lhs; whnf) <;> rfl)) rfl (by first | exact vcells_gr | exact vcells_rd | exact (SlOf.cells (by assumption)).1 | ((conv => lhs; whnf) <;> rfl)) T3 rfl rfl (by first | rfl | (simp only [List.all_cons, List.all_nil, vcells, tv.cm, tv.cp]; rfl) | (simp; done) | (simp [cellOK]; done)) (by simp only [wr]; exact rfl) (by simp only [zset]; exact rfl) ?_
        refine W_done ?_
        refine W_inB ?_
        refine W_less (.cons _ (.cons_cons _ (.cons_cons _ (.cons_cons _ (.cons_cons _ (.cons_cons _ .slnil)))))) ?_
        exact endsB_of ((legAt t order i).comes.2, false) rfl (by simp [zsets, zset]) ⟨fun _ => ⟨rfl, by simp, take_step hl0 (by clear hbef ha; simp_all [faulty, full, legAt]) hbef⟩, fun h => absurd rfl h⟩
  · rintro ⟨a, b⟩ hI0
    obtain ⟨rfl, ha, hbef⟩ := hI0
    rw [List.length_map, List.take_length] at hbef
    have hres : backF t order = (a, true) := by unfold backF; rw [find_not hbef]; simp [legs_len] at ha; simp [ha]
    refine W_eqZ (by simp only [zsets, zset]; exact rfl) ?_
    refine W_inB ?_
    refine W_seq ?_
    refine W_region rfl ?_
    refine W_pure rfl rfl (po_load (i := 3) (ev_t rfl (by (conv => lhs; whnf) <;> rfl)) K3 A3 rfl rfl) ?_
    refine W_store (i := 3) rfl rfl rfl (ev_t rfl (by (conv => lhs; whnf) <;> rfl)) (ev_t rfl (by (conv => lhs; whnf) <;> rfl)) rfl (by first | exact vcells_gr | exact vcells_rd | exact (SlOf.cells (by assumption)).1 | ((conv => lhs; whnf) <;> rfl)) T3 rfl rfl (by first | rfl | (simp only [List.all_cons, List.all_nil, vcells, tv.cm, tv.cp]; rfl) | (simp; done) | (simp [cellOK]; done)) (by simp only [wr]; exact rfl) (by simp only [zset]; exact rfl) ?_
    refine W_store (i := 2) rfl rfl rfl (ev_t rfl (by (conv => lhs; whnf) <;> rfl)) rfl rfl (by first | exact vcells_gr | exact vcells_rd | exact (SlOf.cells (by assumption)).1 | ((conv => lhs; whnf) <;> rfl)) T4 rfl rfl (by first | rfl | (simp only [List.all_cons, List.all_nil, vcells, tv.cm, tv.cp]; rfl) | (simp; done) | (simp [cellOK]; done)) (by simp only [wr]; exact rfl) (by simp only [zset]; exact rfl) ?_
    refine W_done ?_
    exact W_ret fun fr σ' hf hz => ends_of (.inr rfl) hf hz rfl (show resOf _ _ _ _ _ from ⟨_, _, rfl, po_load (i := 3) (ev_t rfl (by (conv => lhs; whnf) <;> rfl)) K3 A3 rfl rfl, ⟨_, _, rfl, po_load (i := 2) (ev_t rfl (by (conv => lhs; whnf) <;> rfl)) K4 A4 rfl rfl, rfl⟩⟩) rfl fun τ hz2 => by clear hf hz; first | (rw [← hres]; simp [packV, Ev.freeze, Ev.freeze.frL]; done) | (rw [hres]; simp [packV, Ev.freeze, Ev.freeze.frL]; done)
  · rintro i e ⟨a, b⟩ c hi hJ0 hc
    obtain ⟨rfl, hres⟩ := hJ0
    cases hc
    refine W_eqZ (by simp only [zsets, zset]; exact rfl) ?_
    exact W_ret fun fr σ' hf hz => ends_of (.inr rfl) hf hz rfl (show resOf _ _ _ _ _ from ⟨_, _, rfl, po_load (i := 3) (ev_t rfl (by (conv => lhs; whnf) <;> rfl)) K3 A3 rfl rfl, ⟨_, _, rfl, po_load (i := 2) (ev_t rfl (by (conv => lhs; whnf) <;> rfl)) K4 A4 rfl rfl, rfl⟩⟩) rfl fun τ hz2 => by clear hf hz; first | (rw [← hres]; simp [packV, Ev.freeze, Ev.freeze.frL]; done) | (rw [hres]; simp [packV, Ev.freeze, Ev.freeze.frL]; done)


/-- The same task, left later. -/
def later (t : Tsk) (by_ : Int) : Tsk := { t with leaves := t.leaves + by_ }
theorem TaskV.later {t : Tsk} {vm vp : V} (h : TaskV t vm vp) (d : Int) : TaskV (later t d) vm vp := ⟨h.rows, h.places, h.sm, h.sp⟩
theorem OkBody.later {t : Tsk} (h : OkBody t) (d : Int) : OkBody (later t d) := ⟨h.many, h.len, h.row, h.span, h.diag, h.place⟩
def serves (t : Tsk) (order : List Int) (d : Int) : Bool := (backF (later t d) order).2

theorem c39 (t : Tsk) (vm vp : V) (tv : TaskV t vm vp) (order : List Int) (vo : V) (ho : SlOf vo (order.map int)) (ok : OkTask t) (oo : OkOrder t order) (d : Int) (hd : 0 ≤ d ∧ d ≤ 5000) (b1 b2 : Nat) (σ : St) (h1 : σ[b1]? = some (.cells 119 [vm, vp, int t.holds, int t.leaves, int t.back])) (h2 : σ[b2]? = some (.cells 31 [vo])) :
    Run TC (.app false (.func (.func 39) [] [.ptr b1 0, .ptr b2 0]) [int d]) σ (.val (.bool (serves t order d))) σ := by
  have htm := ok.time
  refine fn_pure (n := 23) (fn := Try.f39) rfl Try.func39 rfl rfl rfl ?_
  refine W_seq ?_
  refine W_region rfl ?_
  refine W_pure rfl rfl (po_assign rfl) ?_
  refine W_done ?_
  refine W_seq ?_
  refine W_region rfl ?_
  refine W_pure rfl rfl (po_loadOA (ev_t rfl (by (conv => lhs; whnf) <;> rfl)) K119 A119 T119 h1 (by simp) rfl (by simp only [sub]; exact rfl)) ?_
  refine W_alloc rfl rfl rfl Z119 (fun t h => by cases h) (by (conv => lhs; whnf) <;> rfl) fun b5 hb5 => ?_
  refine W_store (i := 0) rfl rfl rfl (ev_t rfl (by (conv => lhs; whnf) <;> rfl)) (ev_t rfl (by (conv => lhs; whnf) <;> rfl)) rfl (by first | exact vcells_gr | exact vcells_rd | exact (SlOf.cells (by assumption)).1 | ((conv => lhs; whnf) <;> rfl)) T119 rfl rfl (by first | rfl | (simp only [List.all_cons, List.all_nil, vcells, tv.cm, tv.cp]; rfl) | (simp; done) | (simp [cellOK]; done)) (by simp only [wr]; exact rfl) (by simp only [zset]; exact rfl) ?_
  refine W_done ?_
  refine W_seq ?_
  refine W_region rfl ?_
  refine W_pure rfl rfl (po_fieldAddr (ev_t rfl (by (conv => lhs; whnf) <;> rfl)) F119_0 T40 (by (conv => lhs; whnf) <;> rfl)) ?_
  refine W_pure rfl rfl (po_fieldAddr (ev_t rfl (by (conv => lhs; whnf) <;> rfl)) F40_3 T3 (by (conv => lhs; whnf) <;> rfl)) ?_
  refine W_pure rfl rfl (po_load (i := 0) (ev_t rfl (by (conv => lhs; whnf) <;> rfl)) K3 A3 rfl rfl) ?_
  refine W_pure rfl rfl (po_move (ev_t rfl (by (conv => lhs; whnf) <;> rfl))) ?_
  refine W_pure rfl rfl (po_add (ev_t rfl (by (conv => lhs; whnf) <;> rfl)) (ev_t rfl (by (conv => lhs; whnf) <;> rfl)) (by first | omega | (simp only [List.length_map, List.length_append, List.length_cons, List.length_nil] at *; omega))) ?_
  refine W_pure rfl rfl (po_fieldAddr (ev_t rfl (by (conv => lhs; whnf) <;> rfl)) F119_0 T40 (by (conv => lhs; whnf) <;> rfl)) ?_
  refine W_pure rfl rfl (po_fieldAddr (ev_t rfl (by (conv => lhs; whnf) <;> rfl)) F40_3 T3 (by (conv => lhs; whnf) <;> rfl)) ?_
  refine W_store (i := 0) rfl rfl rfl (ev_t rfl (by (conv => lhs; whnf) <;> rfl)) (ev_t rfl (by (conv => lhs; whnf) <;> rfl)) rfl (by first | exact vcells_gr | exact vcells_rd | exact (SlOf.cells (by assumption)).1 | ((conv => lhs; whnf) <;> rfl)) T3 rfl rfl (by first | rfl | (simp only [List.all_cons, List.all_nil, vcells, tv.cm, tv.cp]; rfl) | (simp; done) | (simp [cellOK]; done)) (by simp only [wr]; exact rfl) (by simp only [zset]; exact rfl) ?_
  refine W_done ?_
  refine W_seq ?_
  refine W_region rfl ?_
  refine W_pure rfl rfl (po_loadA (i := 0) (ev_t rfl (by (conv => lhs; whnf) <;> rfl)) K119 A119 T119 rfl rfl (by simp only [sub]; exact rfl)) ?_
  refine W_pure rfl rfl (po_loadO (ev_t rfl (by (conv => lhs; whnf) <;> rfl)) K31 A31 h2 (by simp) rfl) ?_
  refine W_call rfl rfl rfl rfl rfl (evl_cons (ev_t rfl (by (conv => lhs; whnf) <;> rfl)) (evl_cons (ev_t rfl (by (conv => lhs; whnf) <;> rfl)) evl_nil)) (fun σ hz => c40 (later t d) vm vp (tv.later d) order vo ho ⟨ok.toOkBody.later d, by simp only [later]; omega, oo.within, oo.len⟩ σ) ?_
  refine W_pure rfl rfl (po_move (ev_t rfl (by (conv => lhs; whnf) <;> rfl))) ?_
  refine W_pure rfl rfl (po_extract (ev_t rfl (by (conv => lhs; whnf) <;> rfl)) rfl) ?_
  refine W_pure rfl rfl (po_extract (ev_t rfl (by (conv => lhs; whnf) <;> rfl)) rfl) ?_
  refine W_pure rfl rfl (po_assign (ev_t rfl (by (conv => lhs; whnf) <;> rfl))) ?_
  refine W_pure rfl rfl (po_assign (ev_t rfl (by (conv => lhs; whnf) <;> rfl))) ?_
  refine W_done ?_
  refine W_seq ?_
  refine W_region rfl ?_
  refine W_pure rfl rfl (po_move (ev_t rfl (by (conv => lhs; whnf) <;> rfl))) ?_
  refine W_pure rfl rfl (po_assign (ev_t rfl (by (conv => lhs; whnf) <;> rfl))) ?_
  refine W_done ?_
  exact W_ret fun fr σ' hf hz => ends_of (.inr rfl) hf hz rfl (show resOf _ _ _ _ _ from ⟨_, _, rfl, ev_t rfl (by (conv => lhs; whnf) <;> rfl), rfl⟩) rfl fun τ hz2 => by clear hf hz; simp [packV, Ev.freeze, serves]


/-- The search by halves: the most that serves, if the less serves wherever the more does. -/
def bs (f : Int → Bool) : Nat → Int → Int → Int
  | 0, lo, _ => lo
  | n + 1, lo, hi => if lo < hi then (if f ((lo + hi + 1) / 2) then bs f n ((lo + hi + 1) / 2) hi else bs f n lo ((lo + hi + 1) / 2 - 1)) else lo
theorem bs_ge (f : Int → Bool) : ∀ (n : Nat) (lo hi : Int), lo ≤ bs f n lo hi
  | 0, lo, hi => Int.le_refl _
  | n + 1, lo, hi => by
    unfold bs
    split
    · split
      · have := bs_ge f n ((lo + hi + 1) / 2) hi; omega
      · exact bs_ge f n lo _
    · exact Int.le_refl _
theorem bs_t {f : Int → Bool} {n : Nat} {lo hi : Int} (h : lo < hi) (hf : f ((lo + hi + 1) / 2) = true) : bs f (n + 1) lo hi = bs f n ((lo + hi + 1) / 2) hi := by rw [bs, if_pos h, if_pos hf]
theorem bs_f {f : Int → Bool} {n : Nat} {lo hi : Int} (h : lo < hi) (hf : f ((lo + hi + 1) / 2) = false) : bs f (n + 1) lo hi = bs f n lo ((lo + hi + 1) / 2 - 1) := by rw [bs, if_pos h, if_neg (by simp [hf])]
def lateF (t : Tsk) (order : List Int) : Int := bs (serves t order) 5000 0 5000

theorem c12 (t : Tsk) (vm vp : V) (tv : TaskV t vm vp) (order : List Int) (vo : V) (ho : SlOf vo (order.map int)) (ok : OkTask t) (oo : OkOrder t order) (hs : serves t order 0 = true) (σ : St) : Run TC (.app false (.func (.func 12) [] []) [taskV t vm vp, vo]) σ (.val (.tup [int (lateF t order), int 0])) σ := by
  have hlo := oo.len
  refine fn_pure (n := 40) (fn := Try.f12) rfl Try.func12 rfl rfl rfl ?_
  refine W_seq ?_
  refine W_region rfl ?_
  refine W_box rfl rfl rfl (ev_t rfl (by (conv => lhs; whnf) <;> rfl)) (by first | exact vcells_gr | exact vcells_rd | exact (SlOf.cells (by assumption)).1 | ((conv => lhs; whnf) <;> rfl)) fun b2 hb2 => ?_
  refine W_box rfl rfl rfl (ev_t rfl (by (conv => lhs; whnf) <;> rfl)) (by first | exact vcells_gr | exact vcells_rd | exact (SlOf.cells (by assumption)).1 | ((conv => lhs; whnf) <;> rfl)) fun b3 hb3 => ?_
  refine W_pure rfl rfl (po_assign rfl) ?_
  refine W_pure rfl rfl (po_assign rfl) ?_
  refine W_done ?_
  refine W_seq ?_
  refine W_region rfl ?_
  refine W_pure rfl rfl (po_loadA (i := 1) (ev_t rfl (by (conv => lhs; whnf) <;> rfl)) K40 A40 T40 rfl rfl (by simp only [sub]; exact rfl)) ?_
  refine W_pure rfl rfl (po_load (i := 0) (ev_t rfl (by (conv => lhs; whnf) <;> rfl)) K31 A31 rfl rfl) ?_
  refine W_call rfl rfl rfl rfl rfl (evl_cons (ev_t rfl (by (conv => lhs; whnf) <;> rfl)) (evl_cons (ev_t rfl (by (conv => lhs; whnf) <;> rfl)) evl_nil)) (fun σ hz => c36 t vm vp tv ok order vo ho oo σ) ?_
  refine W_pure rfl rfl (po_move (ev_t rfl (by (conv => lhs; whnf) <;> rfl))) ?_
  refine W_pure rfl rfl (po_extract (ev_t rfl (by (conv => lhs; whnf) <;> rfl)) rfl) ?_
  refine W_pure rfl rfl (po_extract (ev_t rfl (by (conv => lhs; whnf) <;> rfl)) rfl) ?_
  refine W_alloc rfl rfl rfl Z119 (fun t h => by cases h) (by (conv => lhs; whnf) <;> rfl) fun b6 hb6 => ?_
  refine W_store (i := 0) rfl rfl rfl (ev_t rfl (by (conv => lhs; whnf) <;> rfl)) (ev_t rfl (by (conv => lhs; whnf) <;> rfl)) rfl (by first | exact vcells_gr | exact vcells_rd | exact (SlOf.cells (by assumption)).1 | ((conv => lhs; whnf) <;> rfl)) T119 rfl rfl (by first | rfl | (simp only [List.all_cons, List.all_nil, vcells, tv.cm, tv.cp]; rfl) | (simp; done) | (simp [cellOK]; done)) (by simp only [wr]; exact rfl) (by simp only [zset]; exact rfl) ?_
  refine W_pure rfl rfl (po_assign (ev_t rfl (by (conv => lhs; whnf) <;> rfl))) ?_
  refine W_done ?_
  refine W_seq ?_
  refine W_seq ?_
  refine W_region rfl ?_
  refine W_pure rfl rfl (po_move (ev_t rfl (by (conv => lhs; whnf) <;> rfl))) ?_
  refine W_pure rfl rfl (po_bin (ev_t rfl (by (conv => lhs; whnf) <;> rfl)) rfl (by (conv => lhs; whnf) <;> rfl)) ?_
  refine W_known 19 false (by (conv => lhs; whnf) <;> rfl) (by first | rfl | (congr 1; simp; done) | (congr 1; simp; omega) | (congr 1; simp only [decide_eq_true_eq, decide_eq_false_iff_not, List.length_map]; omega) | (congr 1; simp_all; done) | (congr 1; simp_all; omega)) ?_
  refine W_done ?_
  refine W_else (ev_t rfl (by (conv => lhs; whnf) <;> rfl)) ?_
  refine W_skip ?_
  refine W_seq ?_
  refine W_region rfl ?_
  refine W_pure rfl rfl (po_func evl_nil (evl_cons (ev_t rfl (by (conv => lhs; whnf) <;> rfl)) (evl_cons (ev_t rfl (by (conv => lhs; whnf) <;> rfl)) evl_nil))) ?_
  refine W_pure rfl rfl (po_assign (ev_t rfl (by (conv => lhs; whnf) <;> rfl))) ?_
  refine W_done ?_
  refine W_seq ?_
  refine W_seq ?_
  refine W_region rfl ?_
  refine W_pure rfl rfl (po_move (ev_t rfl (by (conv => lhs; whnf) <;> rfl))) ?_
  refine W_call rfl rfl rfl rfl (ev_t rfl (by (conv => lhs; whnf) <;> rfl)) (evl_cons rfl evl_nil) (fun σ hz => c39 t vm vp tv order vo ho ok oo 0 (by omega) _ _ σ (hz.get (i := 0) rfl) (hz.get (i := 1) rfl)) ?_
  refine W_known 23 true (by (conv => lhs; whnf) <;> rfl) (by rw [hs]) ?_
  refine W_pure rfl rfl (po_un (ev_t rfl (by (conv => lhs; whnf) <;> rfl)) (by (conv => lhs; whnf) <;> rfl)) ?_
  refine W_done ?_
  refine W_else (ev_t rfl (by (conv => lhs; whnf) <;> rfl)) ?_
  refine W_skip ?_
  refine W_seq ?_
  refine W_region rfl ?_
  refine W_pure rfl rfl (po_assign rfl) ?_
  refine W_pure rfl rfl (po_assign rfl) ?_
  refine W_done ?_
  refine W_seq ?_
  refine W_block ?_
  refine W_loopI (S := Int × Int × Nat) (fun ⟨lo, hi, n⟩ => [(9, int lo), (10, int hi)]) [] (fun ⟨lo, hi, n⟩ => []) (fun ⟨lo, hi, n⟩ => 0 ≤ lo ∧ lo ≤ hi ∧ hi ≤ 5000 ∧ hi - lo ≤ n ∧ bs (serves t order) n lo hi = lateF t order) (fun ⟨lo, hi, n⟩ => n) (0, 5000, 5000) (AE 4 (by (conv => lhs; whnf) <;> rfl) (AE 5 (by (conv => lhs; whnf) <;> rfl) (AE 8 (by (conv => lhs; whnf) <;> rfl) AE_nil))) (AE 9 (Eq.trans (by (conv => lhs; whnf) <;> rfl) (by first | rfl | (simp; done) | (simp; omega))) (AE 10 (Eq.trans (by (conv => lhs; whnf) <;> rfl) (by first | rfl | (simp; done) | (simp; omega))) AE_nil)) rfl (⟨by omega, by omega, by omega, by omega, rfl⟩) ?_
  rintro ⟨lo, hi, n⟩ j0 hI0 ih0
  simp only at hI0 ⊢
  obtain ⟨i1, i2, i3, i4, i5⟩ := hI0
  refine W_eqZ (by simp only [zsets, zset]; exact rfl) ?_
  refine W_seq ?_
  refine W_seq ?_
  refine W_region rfl ?_
  refine W_pure rfl rfl (po_move (ev_t rfl (by (conv => lhs; whnf) <;> rfl))) ?_
  refine W_pure rfl rfl (po_move (ev_t rfl (by (conv => lhs; whnf) <;> rfl))) ?_
  refine W_pure rfl rfl (po_bin (ev_t rfl (by (conv => lhs; whnf) <;> rfl)) (ev_t rfl (by (conv => lhs; whnf) <;> rfl)) (by (conv => lhs; whnf) <;> rfl)) ?_
  refine W_done ?_
  refine W_if (ev_t rfl (by (conv => lhs; whnf) <;> rfl)) (fun g0 => ?_) (fun g0 => ?_)
  · (try simp only [decide_eq_true_eq, decide_eq_false_iff_not, beq_iff_eq, beq_eq_false_iff_ne, bne_iff_ne, ne_eq, bne_eq_false_iff_eq, Bool.not_eq_true', Bool.not_eq_false', Bool.not_eq_true, Bool.not_eq_false, Bool.not_false, Bool.not_true, not_lt, not_le, Int.not_lt, Int.not_le, Decidable.not_not] at g0); (try simp at g0)
    obtain ⟨n0, hn⟩ : ∃ n0, n = n0 + 1 := ⟨n - 1, by omega⟩
    refine W_skip ?_
    refine W_block ?_
    refine W_seq ?_
    refine W_region rfl ?_
    refine W_pure rfl rfl (po_move (ev_t rfl (by (conv => lhs; whnf) <;> rfl))) ?_
    refine W_pure rfl rfl (po_move (ev_t rfl (by (conv => lhs; whnf) <;> rfl))) ?_
    refine W_pure rfl rfl (po_add (ev_t rfl (by (conv => lhs; whnf) <;> rfl)) (ev_t rfl (by (conv => lhs; whnf) <;> rfl)) (by first | omega | (simp only [List.length_map, List.length_append, List.length_cons, List.length_nil] at *; omega))) ?_
    refine W_pure rfl rfl (po_add (ev_t rfl (by (conv => lhs; whnf) <;> rfl)) rfl (by first | omega | (simp only [List.length_map, List.length_append, List.length_cons, List.length_nil] at *; omega))) ?_
    refine W_pure rfl rfl (po_quo (ev_t rfl (by (conv => lhs; whnf) <;> rfl)) rfl (by first | omega | (simp only [List.length_map, List.length_append, List.length_cons, List.length_nil] at *; omega)) (by first | omega | (simp only [List.length_map, List.length_append, List.length_cons, List.length_nil] at *; omega)) (by first | omega | (simp only [List.length_map, List.length_append, List.length_cons, List.length_nil] at *; omega))) ?_
    refine W_pure rfl rfl (po_assign (ev_t rfl (by (conv => lhs; whnf) <;> rfl))) ?_
    refine W_done ?_
    refine W_seq ?_
    refine W_region rfl ?_
    refine W_pure rfl rfl (po_move (ev_t rfl (by (conv => lhs; whnf) <;> rfl))) ?_
    refine W_pure rfl rfl (po_move (ev_t rfl (by (conv => lhs; whnf) <;> rfl))) ?_
    refine W_call rfl rfl rfl rfl (ev_t rfl (by (conv => lhs; whnf) <;> rfl)) (evl_cons (ev_t rfl (by (conv => lhs; whnf) <;> rfl)) evl_nil) (fun σ hz => c39 t vm vp tv order vo ho ok oo _ (by omega) _ _ σ (hz.get (i := 0) rfl) (hz.get (i := 1) rfl)) ?_
    refine W_done ?_
    refine W_if (ev_t rfl (by (conv => lhs; whnf) <;> rfl)) (fun g1 => ?_) (fun g1 => ?_)
    · (try simp only [decide_eq_true_eq, decide_eq_false_iff_not, beq_iff_eq, beq_eq_false_iff_ne, bne_iff_ne, ne_eq, bne_eq_false_iff_eq, Bool.not_eq_true', Bool.not_eq_false', Bool.not_eq_true, Bool.not_eq_false, Bool.not_false, Bool.not_true, not_lt, not_le, Int.not_lt, Int.not_le, Decidable.not_not] at g1); (try simp at g1)
      refine W_region rfl ?_
      refine W_pure rfl rfl (po_move (ev_t rfl (by (conv => lhs; whnf) <;> rfl))) ?_
      refine W_pure rfl rfl (po_assign (ev_t rfl (by (conv => lhs; whnf) <;> rfl))) ?_
      refine W_done ?_
      refine W_inB ?_
      exact ih0 ((lo + hi + 1) / 2, hi, n - 1) _ _ (⟨by omega, by omega, by omega, by omega, by rw [← i5, hn, bs_t g0 g1]; simp only [Nat.add_sub_cancel]⟩) (by simp; omega) (AE 9 (Eq.trans (by (conv => lhs; whnf) <;> rfl) (by first | rfl | (simp; done) | (simp; omega))) (AE 10 (Eq.trans (by (conv => lhs; whnf) <;> rfl) (by first | rfl | (simp; done) | (simp; omega))) AE_nil)) (AE 4 (by (conv => lhs; whnf) <;> rfl) (AE 5 (by (conv => lhs; whnf) <;> rfl) (AE 8 (by (conv => lhs; whnf) <;> rfl) AE_nil))) rfl
    · (try simp only [decide_eq_true_eq, decide_eq_false_iff_not, beq_iff_eq, beq_eq_false_iff_ne, bne_iff_ne, ne_eq, bne_eq_false_iff_eq, Bool.not_eq_true', Bool.not_eq_false', Bool.not_eq_true, Bool.not_eq_false, Bool.not_false, Bool.not_true, not_lt, not_le, Int.not_lt, Int.not_le, Decidable.not_not] at g1); (try simp at g1)
      refine W_region rfl ?_
      refine W_pure rfl rfl (po_move (ev_t rfl (by (conv => lhs; whnf) <;> rfl))) ?_
      refine W_pure rfl rfl (po_sub (ev_t rfl (by (conv => lhs; whnf) <;> rfl)) rfl (by first | omega | (simp only [List.length_map, List.length_append, List.length_cons, List.length_nil] at *; omega))) ?_
      refine W_pure rfl rfl (po_assign (ev_t rfl (by (conv => lhs; whnf) <;> rfl))) ?_
      refine W_done ?_
      refine W_inB ?_
      exact ih0 (lo, (lo + hi + 1) / 2 - 1, n - 1) _ _ (⟨by omega, by omega, by omega, by omega, by rw [← i5, hn, bs_f g0 g1]; simp only [Nat.add_sub_cancel]⟩) (by simp; omega) (AE 9 (Eq.trans (by (conv => lhs; whnf) <;> rfl) (by first | rfl | (simp; done) | (simp; omega))) (AE 10 (Eq.trans (by (conv => lhs; whnf) <;> rfl) (by first | rfl | (simp; done) | (simp; omega))) AE_nil)) (AE 4 (by (conv => lhs; whnf) <;> rfl) (AE 5 (by (conv => lhs; whnf) <;> rfl) (AE 8 (by (conv => lhs; whnf) <;> rfl) AE_nil))) rfl
  · (try simp only [decide_eq_true_eq, decide_eq_false_iff_not, beq_iff_eq, beq_eq_false_iff_ne, bne_iff_ne, ne_eq, bne_eq_false_iff_eq, Bool.not_eq_true', Bool.not_eq_false', Bool.not_eq_true, Bool.not_eq_false, Bool.not_false, Bool.not_true, not_lt, not_le, Int.not_lt, Int.not_le, Decidable.not_not] at g0); (try simp at g0)
    have hres : lo = lateF t order := by (rw [← i5]; cases n with | zero => rfl | succ n0 => unfold bs; rw [if_neg (by omega)])
    refine W_exit rfl ?_
    refine W_seq ?_
    refine W_region rfl ?_
    refine W_pure rfl rfl (po_move (ev_t rfl (by (conv => lhs; whnf) <;> rfl))) ?_
    refine W_pure rfl rfl (po_assign (ev_t rfl (by (conv => lhs; whnf) <;> rfl))) ?_
    refine W_pure rfl rfl (po_assign rfl) ?_
    refine W_done ?_
    exact W_ret fun fr σ' hf hz => ends_of (.inr rfl) hf hz rfl (show resOf _ _ _ _ _ from ⟨_, _, rfl, ev_t rfl (by (conv => lhs; whnf) <;> rfl), ⟨_, _, rfl, ev_t rfl (by (conv => lhs; whnf) <;> rfl), rfl⟩⟩) rfl fun τ hz2 => by clear hf hz; simp [packV, Ev.freeze, Ev.freeze.frL, hres]


/-! ### oakKnown10 -/
abbrev tK : Tsk := ⟨[[(0, 0), (10, 15)], [(10, 15), (0, 0)]], [⟨0, 60, 5, 3, 2⟩], 6, 0, 80⟩
abbrev vmK : V := .sl .full [.sl .full [span (0, 0), span (10, 15)], .sl .full [span (10, 15), span (0, 0)]]
abbrev vpK : V := .sl .full [place ⟨0, 60, 5, 3, 2⟩]
theorem tvK : TaskV tK vmK vpK := ⟨⟨_, .sl, rfl, fun i r row hr hrow => by
    rcases i with _ | _ | i <;> simp at hr hrow <;> subst hr <;> subst hrow <;> exact .sl⟩, .sl, Still.sl (fun _ => rfl) (by simp; exact ⟨Still.sl (fun _ => rfl) (by simp [Still.agg, Still.int]), Still.sl (fun _ => rfl) (by simp [Still.agg, Still.int])⟩), Still.sl (fun _ => rfl) (by simp [Still.agg, Still.int])⟩
theorem okK : OkTask tK := ⟨⟨by simp, rfl, by simp, by simp [okSpan]; exact ⟨fun a b h => by omega, fun a b h => by omega⟩, fun i row h => by rcases i with _ | _ | i <;> simp at h <;> subst h <;> rfl, by simp [okPlace]⟩, by simp, by simp⟩
theorem ooK : OkOrder tK [1] := ⟨⟨[1], c81 [1] (by simp) (by simp), by simp, rfl⟩, by simp, by simp⟩
theorem legsK : (legsL tK [1]).map (fun l => l.comes) = [(10, 15), (25, 35)] := by decide

theorem c13 (σ : St) : Run TC (.app false (.func (.func 13) [] []) []) σ (.val (.bool true)) σ := by
  refine fn_pure (n := 41) (fn := Try.f13) rfl Try.func13 rfl rfl rfl ?_
  refine W_seq ?_
  refine W_region rfl ?_
  refine W_pure rfl rfl (po_assign rfl) ?_
  refine W_done ?_
  refine W_seq ?_
  refine W_region rfl ?_
  refine W_pure rfl rfl (po_struct evp_nil Z33 P33 rfl (by simp only [lay, nth, wr, vcells]; exact rfl)) ?_
  refine W_call rfl rfl rfl rfl rfl (evl_cons rfl (evl_cons rfl evl_nil)) (fun σ hz => c17 10 15 σ) ?_
  refine W_pureD rfl rfl (po_sliceD rfl U51 Z33 T33 rfl (evp_cons (ev_t rfl (by (conv => lhs; whnf) <;> rfl)) (evp_cons (ev_t rfl (by (conv => lhs; whnf) <;> rfl)) evp_nil)) rfl (by first | rfl | simp [vcells]) (by simp [listSet]; rfl)) ?_
  refine W_call rfl rfl rfl rfl rfl (evl_cons rfl (evl_cons rfl evl_nil)) (fun σ hz => c17 10 15 σ) ?_
  refine W_pure rfl rfl (po_struct evp_nil Z33 P33 rfl (by simp only [lay, nth, wr, vcells]; exact rfl)) ?_
  refine W_pureD rfl rfl (po_sliceD rfl U51 Z33 T33 rfl (evp_cons (ev_t rfl (by (conv => lhs; whnf) <;> rfl)) (evp_cons (ev_t rfl (by (conv => lhs; whnf) <;> rfl)) evp_nil)) rfl (by first | rfl | simp [vcells]) (by simp [listSet]; rfl)) ?_
  refine W_pureD rfl rfl (po_sliceD rfl U37 Z51 T51 rfl (evp_cons (ev_t rfl (by (conv => lhs; whnf) <;> rfl)) (evp_cons (ev_t rfl (by (conv => lhs; whnf) <;> rfl)) evp_nil)) rfl (by first | rfl | simp [vcells]) (by simp [listSet]; rfl)) ?_
  refine W_pure rfl rfl (po_struct (evp_cons rfl (evp_cons rfl (evp_cons rfl (evp_cons rfl evp_nil)))) Z117 P117 rfl (by simp only [lay, nth, wr, vcells]; exact rfl)) ?_
  refine W_pureD rfl rfl (po_sliceD rfl U38 Z117 T117 rfl (evp_cons (ev_t rfl (by (conv => lhs; whnf) <;> rfl)) evp_nil) rfl (by first | rfl | simp [vcells]) (by simp [listSet]; rfl)) ?_
  refine W_pure rfl rfl (po_struct (evp_cons (ev_t rfl (by (conv => lhs; whnf) <;> rfl)) (evp_cons (ev_t rfl (by (conv => lhs; whnf) <;> rfl)) (evp_cons rfl (evp_cons rfl evp_nil)))) Z40 P40 rfl (by simp only [lay, nth, wr, vcells]; exact rfl)) ?_
  refine W_alloc rfl rfl rfl Z40 (fun t h => by cases h) (by (conv => lhs; whnf) <;> rfl) fun b1 hb1 => ?_
  refine W_store (i := 0) rfl rfl rfl (ev_t rfl (by (conv => lhs; whnf) <;> rfl)) (ev_t rfl (by (conv => lhs; whnf) <;> rfl)) rfl (by first | exact vcells_gr | exact vcells_rd | exact (SlOf.cells (by assumption)).1 | ((conv => lhs; whnf) <;> rfl)) T40 rfl rfl (by first | rfl | (simp; done) | (simp [cellOK]; done)) (by simp only [wr]; exact rfl) (by simp only [zset]; exact rfl) ?_
  refine W_done ?_
  refine W_seq ?_
  refine W_region rfl ?_
  refine W_pure rfl rfl (po_loadA (i := 0) (ev_t rfl (by (conv => lhs; whnf) <;> rfl)) K40 A40 T40 rfl rfl (by simp only [sub]; exact rfl)) ?_
  refine W_pureD rfl rfl (po_sliceD rfl U31 Z3 T3 rfl (evp_cons rfl evp_nil) rfl (by first | rfl | simp [vcells]) (by simp [listSet]; rfl)) ?_
  refine W_call rfl rfl rfl rfl rfl (evl_cons (ev_t rfl (by (conv => lhs; whnf) <;> rfl)) (evl_cons (ev_t rfl (by (conv => lhs; whnf) <;> rfl)) evl_nil)) (fun σ hz => c41 tK vmK vpK tvK [1] (.sl .full [int 1]) .sl okK ooK σ) ?_
  refine W_pure rfl rfl (po_move (ev_t rfl (by (conv => lhs; whnf) <;> rfl))) ?_
  refine W_pure rfl rfl (po_extract (ev_t rfl (by (conv => lhs; whnf) <;> rfl)) rfl) ?_
  refine W_pure rfl rfl (po_extract (ev_t rfl (by (conv => lhs; whnf) <;> rfl)) rfl) ?_
  refine W_pure rfl rfl (po_assign (ev_t rfl (by (conv => lhs; whnf) <;> rfl))) ?_
  refine W_pure rfl rfl (po_assign (ev_t rfl (by (conv => lhs; whnf) <;> rfl))) ?_
  refine W_done ?_
  refine W_seq ?_
  refine W_drawI (cs := []) (gl := [0, 1, 2, 3, 4, 5, 6, 7, 8, 9, 10, 11, 12, 13, 14, 15, 16, 17, 18, 19, 20, 21]) [] (by simp only [zdrop, List.any_cons, List.any_nil, Nat.beq, Bool.or_false, cond_true, cond_false]; exact rfl) rfl rfl ?_
  refine DE_pureW (.cons_cons _ .slnil) (want_none rfl) rfl (po_move (ev_t rfl (by (conv => lhs; whnf) <;> rfl))) ?_
  refine DE_pureW (.cons_cons _ .slnil) (want_none rfl) rfl (po_bin (ev_t rfl (by (conv => lhs; whnf) <;> rfl)) rfl (by (conv => lhs; whnf) <;> rfl)) ?_
  refine DE_known 21 true (by (conv => lhs; whnf) <;> rfl) (by first | rfl | (congr 1; simp; done) | (congr 1; simp; omega) | (congr 1; simp only [decide_eq_true_eq, decide_eq_false_iff_not, List.length_map]; omega) | (congr 1; simp_all; done) | (congr 1; simp_all; omega)) ?_
  refine DE_pureW (.cons_cons _ .slnil) (want_none rfl) rfl (po_move (ev_t rfl (by (conv => lhs; whnf) <;> rfl))) ?_
  refine DE_pureW (.cons_cons _ .slnil) (want_yes rfl rfl rfl rfl rfl) rfl (po_move (ev_t rfl (by (conv => lhs; whnf) <;> rfl))) ?_
  refine DE_pureW (.cons_cons _ .slnil) (want_yes rfl rfl rfl rfl rfl) rfl (po_lenS rfl U51 (ev_t rfl (by (conv => lhs; whnf) <;> rfl)) (by first | exact SlOf.sl | exact SlOf.gr | exact SlOf.rd | exact SlOf.nil | assumption)) ?_
  refine DE_pureW (.cons_cons _ .slnil) (want_yes rfl rfl rfl rfl rfl) rfl (po_bin (ev_t rfl (by (conv => lhs; whnf) <;> rfl)) rfl (by (conv => lhs; whnf) <;> rfl)) ?_
  refine DE_known 25 true (by (conv => lhs; whnf) <;> rfl) (by rw [legsK]; rfl) ?_
  refine DE_pureW (.cons_cons _ .slnil) (want_none rfl) rfl (po_pickT (ev_t rfl (by (conv => lhs; whnf) <;> rfl)) (ev_t rfl (by (conv => lhs; whnf) <;> rfl))) ?_
  refine DE_pureW (.cons_cons _ .slnil) (want_none rfl) rfl (po_move (ev_t rfl (by (conv => lhs; whnf) <;> rfl))) ?_
  refine DE_pureW (.cons_cons _ .slnil) (want_yes rfl rfl rfl rfl rfl) rfl (po_move (ev_t rfl (by (conv => lhs; whnf) <;> rfl))) ?_
  refine DE_pureW (.cons_cons _ .slnil) (want_yes rfl rfl rfl rfl rfl) rfl (po_indexAddrS U51 T33 (ev_t rfl (by (conv => lhs; whnf) <;> rfl)) (by first | exact SlOf.sl | exact SlOf.gr | exact SlOf.rd | exact SlOf.nil | assumption) rfl (by first | omega | (simp only [List.length_map, List.length_append, List.length_cons, List.length_nil] at *; omega)) (show _ = some (span (10, 15)) by rw [legsK]; rfl) (by first | exact vcells_gr | exact vcells_rd | exact (SlOf.cells (by assumption)).1 | ((conv => lhs; whnf) <;> rfl)) rfl) ?_
  refine DE_pureW (.cons_cons _ .slnil) (want_yes rfl rfl rfl rfl rfl) rfl (po_loadRA (ev_t rfl (by (conv => lhs; whnf) <;> rfl)) K33 A33 T33 rfl (by simp only [sub]; exact rfl)) ?_
  refine DE_callW (.cons_cons _ .slnil) (want_yes rfl rfl rfl rfl rfl) rfl rfl rfl rfl (evl_cons rfl (evl_cons rfl evl_nil)) (fun σ hz => c17 10 15 σ) ?_
  refine DE_pureW (.cons_cons _ .slnil) (want_yes rfl rfl rfl rfl rfl) rfl (po_bin (ev_t rfl (by (conv => lhs; whnf) <;> rfl)) (ev_t rfl (by (conv => lhs; whnf) <;> rfl)) (eqSpan _ _ _ _)) ?_
  refine DE_known 32 true (by (conv => lhs; whnf) <;> rfl) (by first | rfl | (congr 1; simp; done) | (congr 1; simp; omega) | (congr 1; simp only [decide_eq_true_eq, decide_eq_false_iff_not, List.length_map]; omega) | (congr 1; simp_all; done) | (congr 1; simp_all; omega)) ?_
  refine DE_pureW (.cons_cons _ .slnil) (want_none rfl) rfl (po_pickT (ev_t rfl (by (conv => lhs; whnf) <;> rfl)) (ev_t rfl (by (conv => lhs; whnf) <;> rfl))) ?_
  refine DE_pureW (.cons_cons _ .slnil) (want_none rfl) rfl (po_move (ev_t rfl (by (conv => lhs; whnf) <;> rfl))) ?_
  refine DE_pureW (.cons_cons _ .slnil) (want_yes rfl rfl rfl rfl rfl) rfl (po_move (ev_t rfl (by (conv => lhs; whnf) <;> rfl))) ?_
  refine DE_pureW (.cons_cons _ .slnil) (want_yes rfl rfl rfl rfl rfl) rfl (po_indexAddrS U51 T33 (ev_t rfl (by (conv => lhs; whnf) <;> rfl)) (by first | exact SlOf.sl | exact SlOf.gr | exact SlOf.rd | exact SlOf.nil | assumption) rfl (by first | omega | (simp only [List.length_map, List.length_append, List.length_cons, List.length_nil] at *; omega)) (show _ = some (span (25, 35)) by rw [legsK]; rfl) (by first | exact vcells_gr | exact vcells_rd | exact (SlOf.cells (by assumption)).1 | ((conv => lhs; whnf) <;> rfl)) rfl) ?_
  refine DE_pureW (.cons_cons _ .slnil) (want_yes rfl rfl rfl rfl rfl) rfl (po_loadRA (ev_t rfl (by (conv => lhs; whnf) <;> rfl)) K33 A33 T33 rfl (by simp only [sub]; exact rfl)) ?_
  refine DE_callW (.cons_cons _ .slnil) (want_yes rfl rfl rfl rfl rfl) rfl rfl rfl rfl (evl_cons rfl (evl_cons rfl evl_nil)) (fun σ hz => c17 25 35 σ) ?_
  refine DE_pureW (.cons_cons _ .slnil) (want_yes rfl rfl rfl rfl rfl) rfl (po_bin (ev_t rfl (by (conv => lhs; whnf) <;> rfl)) (ev_t rfl (by (conv => lhs; whnf) <;> rfl)) (eqSpan _ _ _ _)) ?_
  refine DE_known 39 true (by (conv => lhs; whnf) <;> rfl) (by first | rfl | (congr 1; simp; done) | (congr 1; simp; omega) | (congr 1; simp only [decide_eq_true_eq, decide_eq_false_iff_not, List.length_map]; omega) | (congr 1; simp_all; done) | (congr 1; simp_all; omega)) ?_
  refine DE_pureW (.cons_cons _ .slnil) (want_none rfl) rfl (po_pickT (ev_t rfl (by (conv => lhs; whnf) <;> rfl)) (ev_t rfl (by (conv => lhs; whnf) <;> rfl))) ?_
  refine DE_pureW (.cons_cons _ .slnil) (want_none rfl) rfl (po_assign (ev_t rfl (by (conv => lhs; whnf) <;> rfl))) ?_
  refine DE_nil (.cons_cons _ .slnil) ?_
  exact W_ret fun fr σ' hf hz => ends_of (.inr rfl) hf hz rfl (show resOf _ _ _ _ _ from ⟨_, _, rfl, ev_t rfl (by (conv => lhs; whnf) <;> rfl), rfl⟩) rfl fun τ hz2 => by clear hf hz; simp [packV, Ev.freeze]

end Go.Proofs

set_option linter.unusedVariables false
set_option linter.unusedSimpArgs false
set_option maxRecDepth 10000
namespace Go.Proofs
open Go Go.Ev TryT


/-! ### OakRoads.task -/
/-- The bytes of roads. -/
def cellsR (b : Nat → Int) : List V := (List.range 61).map fun i => .int .u8 (b i)
theorem cellR_at {b : Nat → Int} {o j : Nat} (h : o = j) (hj : j < 61) : (cellsR b)[o]? = some (.int .u8 (b j)) := by subst h; simp [cellsR, hj]
attribute [irreducible] cellsR
def Bytes (b : Nat → Int) : Prop := ∀ i, 0 ≤ b i ∧ b i < 256
def minS (b : Nat → Int) (i k : Nat) : Int × Int := if i = k then (0, 0) else (b (7 * i + k) % 100, b (7 * i + k) % 100 + b (7 * k + i) % 5)
def rowS (b : Nat → Int) (n i : Nat) : List (Int × Int) := (List.range (n + 1)).map (minS b i)
def plS (b : Nat → Int) (br fe : List Int) (i : Nat) : Pl := ⟨b (49 + 2 * i), 5000, b (50 + 2 * i) % 60, br.getD i 0, fe.getD i 0⟩
def oakTask (b : Nat → Int) (br fe : List Int) (holds : Int) : Tsk := ⟨(List.range (br.length + 1)).map (rowS b br.length), (List.range br.length).map (plS b br fe), holds, 0, 5000⟩
def vmS (b : Nat → Int) (n : Nat) : V := rdSl true ((List.range (n + 1)).map fun i => rdSl false ((rowS b n i).map span))
def vpS (b : Nat → Int) (br fe : List Int) : V := rdSl true (((List.range br.length).map (plS b br fe)).map place)
structure RowsV (b : Nat → Int) (n m i : Nat) (vs : List V) : Prop where
  len : vs.length = i
  at_ : ∀ j, j < i → ∃ r, vs[j]? = some (grSl false r ((rowS b n j).map span)) ∧ m ≤ r
theorem RowsV.push {b : Nat → Int} {n m i r : Nat} {vs : List V} (h : RowsV b n m i vs) (hr : m ≤ r) : RowsV b n m (i + 1) (vs ++ [grSl false r ((rowS b n i).map span)]) := by
  refine ⟨by simp [h.len], fun j hj => ?_⟩
  rcases Nat.lt_succ_iff_lt_or_eq.1 hj with h1 | rfl
  · obtain ⟨r', h2, h3⟩ := h.at_ j h1
    exact ⟨r', by rw [List.getElem?_append_left (by rw [h.len]; exact h1)]; exact h2, h3⟩
  · exact ⟨r, by rw [List.getElem?_append_right (by rw [h.len]; exact Nat.le_refl _), h.len]; simp, hr⟩
theorem RowsV.cells {b : Nat → Int} {n m i : Nat} {vs : List V} (h : RowsV b n m i vs) : ∀ x ∈ vs, (vcells x).length = 0 + 1 := fun x hx => by
  obtain ⟨j, hj, rfl⟩ := List.getElem_of_mem hx
  obtain ⟨r, h1, -⟩ := h.at_ j (by rw [← h.len]; exact hj)
  rw [List.getElem?_eq_getElem hj] at h1
  rw [Option.some.inj h1]
  simp
theorem RowsV.frozen {b : Nat → Int} {n m : Nat} {vs : List V} (h : RowsV b n m (n + 1) vs) {P : Program} {σ : St} {d : Nat} : Ev.freeze.frL P m σ d vs = some ((List.range (n + 1)).map fun i => rdSl false ((rowS b n i).map span)) := by
  refine frL_map (by simp [h.len]) fun i x y hx hy => ?_
  have hi : i < n + 1 := by have := (List.getElem?_eq_some_iff.1 hx).1; rw [h.len] at this; exact this
  obtain ⟨r, h1, h2⟩ := h.at_ i hi
  rw [h1] at hx
  cases hx
  have e : y = rdSl false ((rowS b n i).map span) := by simpa [List.getElem?_range hi] using hy.symm
  rw [e]
  exact freeze_gr h2 (frL_still (still_map fun a => Still.agg (by simp [Still.int])))

theorem c9 (b : Nat → Int) (hb : Bytes b) (br fe : List Int) (hl : br.length ≤ 6) (hl2 : fe.length = br.length) (vb vf : V) (h1 : SlOf vb (br.map int)) (h2 : SlOf vf (fe.map int)) (holds : Int) (σ : St) :
    Run TC (.app false (.func (.func 9) [] []) [.agg (cellsR b), vb, vf, int holds]) σ (.val (taskV (oakTask b br fe holds) (vmS b br.length) (vpS b br fe))) σ := by
  refine fn_pure (n := 102) (fn := Try.f9) rfl Try.func9 rfl rfl rfl ?_
  refine W_seq ?_
  refine W_region rfl ?_
  refine W_box rfl rfl rfl (ev_t rfl (by (conv => lhs; whnf) <;> rfl)) (show vcells (.agg (cellsR b)) = cellsR b from rfl) fun b4 hb4 => ?_
  refine W_alloc rfl rfl rfl Z40 (fun t h => by cases h) (by (conv => lhs; whnf) <;> rfl) fun b8 hb8 => ?_
  refine W_done ?_
  refine W_seq ?_
  refine W_region rfl ?_
  refine W_pure rfl rfl (po_move (ev_t rfl (by (conv => lhs; whnf) <;> rfl))) ?_
  refine W_pure rfl rfl (po_struct (evp_cons (ev_t rfl (by (conv => lhs; whnf) <;> rfl)) (evp_cons rfl evp_nil)) Z40 P40 rfl (by simp only [lay, nth, wr, vcells]; exact rfl)) ?_
  refine W_ghostA (d := 17) 51 0 rfl (by (conv => lhs; whnf) <;> rfl) rfl (fun b => by simp only [List.set_cons_zero, List.set_cons_succ]; exact rfl) fun r17_0 hr17_0 => ?_
  refine W_ghostA (d := 17) 117 1 rfl (by (conv => lhs; whnf) <;> rfl) rfl (fun b => by simp only [List.set_cons_zero, List.set_cons_succ]; exact rfl) fun r17_1 hr17_1 => ?_
  refine W_pure rfl rfl (po_move (ev_t rfl (by (conv => lhs; whnf) <;> rfl))) ?_
  refine W_pure rfl rfl (po_lenS rfl U31 (ev_t rfl (by (conv => lhs; whnf) <;> rfl)) (by first | exact SlOf.sl | exact SlOf.gr | exact SlOf.rd | exact SlOf.nil | assumption)) ?_
  refine W_turn 19 (by (conv => lhs; whnf) <;> rfl) (v' := int br.length) (by simp) ?_
  refine W_pure rfl rfl (po_add (ev_t rfl (by (conv => lhs; whnf) <;> rfl)) rfl (by first | omega | (simp only [List.length_map, List.length_append, List.length_cons, List.length_nil] at *; omega))) ?_
  refine W_alloc rfl rfl rfl Z40 (fun t h => by cases h) (by (conv => lhs; whnf) <;> rfl) fun b9 hb9 => ?_
  refine W_store (i := 0) rfl rfl rfl (ev_t rfl (by (conv => lhs; whnf) <;> rfl)) (ev_t rfl (by (conv => lhs; whnf) <;> rfl)) rfl (by first | exact vcells_gr | exact vcells_rd | exact (SlOf.cells (by assumption)).1 | ((conv => lhs; whnf) <;> rfl)) T40 rfl rfl (by first | rfl | (simp only [List.all_cons, List.all_nil, cellOK_gr, cellOK_rd]; rfl) | (simp; done) | (simp [cellOK]; done)) (by simp only [wr]; exact rfl) (by simp only [zset]; exact rfl) ?_
  refine W_pure rfl rfl (po_assign (ev_t rfl (by (conv => lhs; whnf) <;> rfl))) ?_
  refine W_done ?_
  refine W_seq ?_
  refine W_seq ?_
  refine W_region rfl ?_
  refine W_pure rfl rfl (po_assign rfl) ?_
  refine W_done ?_
  refine W_block ?_
  refine W_loopI (S := Nat × List V) (fun ⟨i, vs⟩ => [(11, int i)]) [0, 2] (fun ⟨i, vs⟩ => [.cells 40 [grSl true r17_0 vs, grSl true r17_1 [], int holds, int 0, int 5000], .tok 51 vs.length]) (fun ⟨i, vs⟩ => i ≤ br.length + 1 ∧ RowsV b br.length σ.length i vs) (fun ⟨i, vs⟩ => br.length + 1 - i) (0, []) (AE 1 (by (conv => lhs; whnf) <;> rfl) (AE 2 (by (conv => lhs; whnf) <;> rfl) (AE 4 (by (conv => lhs; whnf) <;> rfl) (AE 8 (by (conv => lhs; whnf) <;> rfl) (AE 9 (by (conv => lhs; whnf) <;> rfl) (AE 10 (by (conv => lhs; whnf) <;> rfl) AE_nil)))))) (AE 11 (Eq.trans (by (conv => lhs; whnf) <;> rfl) (by first | rfl | (simp; done) | (simp; omega))) AE_nil) (by simp [zsets, zset, grSl_nilT, grSl_nilF]) (⟨Nat.zero_le _, rfl, fun j hj => by omega⟩) ?_
  rintro ⟨i, vs⟩ j0 hI0 ih0
  simp only at hI0 ⊢
  obtain ⟨hi, hvs⟩ := hI0
  have hvl := hvs.len
  refine W_eqZ (by simp only [zsets, zset]; exact rfl) ?_
  refine W_seq ?_
  refine W_seq ?_
  refine W_region rfl ?_
  refine W_pure rfl rfl (po_move (ev_t rfl (by (conv => lhs; whnf) <;> rfl))) ?_
  refine W_pure rfl rfl (po_move (ev_t rfl (by (conv => lhs; whnf) <;> rfl))) ?_
  refine W_pure rfl rfl (po_bin (ev_t rfl (by (conv => lhs; whnf) <;> rfl)) (ev_t rfl (by (conv => lhs; whnf) <;> rfl)) (by (conv => lhs; whnf) <;> rfl)) ?_
  refine W_done ?_
  refine W_if (ev_t rfl (by (conv => lhs; whnf) <;> rfl)) (fun g0 => ?_) (fun g0 => ?_)
  · (try simp only [decide_eq_true_eq, decide_eq_false_iff_not, beq_iff_eq, beq_eq_false_iff_ne, bne_iff_ne, ne_eq, bne_eq_false_iff_eq, Bool.not_eq_true', Bool.not_eq_false', Bool.not_eq_true, Bool.not_eq_false, Bool.not_false, Bool.not_true, not_lt, not_le, Int.not_lt, Int.not_le, Decidable.not_not] at g0); (try simp at g0)
    refine W_skip ?_
    refine W_seq ?_
    refine W_block ?_
    refine W_seq ?_
    refine W_region rfl ?_
    refine W_pureD rfl rfl (po_sliceD rfl U51 Z33 T33 rfl evp_nil rfl (by first | rfl | simp [vcells]) (by simp [listSet]; rfl)) ?_
    refine W_ghost (d := 26) 33 false rfl (by first | rfl | simp) fun r26 hr26 => ?_
    refine W_pure rfl rfl (po_assign (ev_t rfl (by (conv => lhs; whnf) <;> rfl))) ?_
    refine W_done ?_
    refine W_seq ?_
    refine W_seq ?_
    refine W_region rfl ?_
    refine W_pure rfl rfl (po_assign rfl) ?_
    refine W_done ?_
    refine W_block ?_
    refine W_loopI (S := Nat) (fun k => [(13, int k), (12, grSl false r26 (((List.range k).map (minS b i)).map span))]) [0] (fun k => [.tok 33 k]) (fun k => k ≤ br.length + 1) (fun k => br.length + 1 - k) (0) (AE 1 (by (conv => lhs; whnf) <;> rfl) (AE 2 (by (conv => lhs; whnf) <;> rfl) (AE 4 (by (conv => lhs; whnf) <;> rfl) (AE 8 (by (conv => lhs; whnf) <;> rfl) (AE 9 (by (conv => lhs; whnf) <;> rfl) (AE 10 (by (conv => lhs; whnf) <;> rfl) (AE 11 (by (conv => lhs; whnf) <;> rfl) AE_nil))))))) (AE 13 (Eq.trans (by (conv => lhs; whnf) <;> rfl) (by first | rfl | (simp; done) | (simp; omega))) (AE 12 (Eq.trans (by (conv => lhs; whnf) <;> rfl) (by first | rfl | (simp; done) | (simp; omega))) AE_nil)) (by simp [zsets, zset, grSl_nilT, grSl_nilF]) (Nat.zero_le _) ?_
    rintro k j1 hI1 ih1
    refine W_eqZ (by simp only [zsets, zset]; exact rfl) ?_
    refine W_seq ?_
    refine W_seq ?_
    refine W_region rfl ?_
    refine W_pure rfl rfl (po_move (ev_t rfl (by (conv => lhs; whnf) <;> rfl))) ?_
    refine W_pure rfl rfl (po_move (ev_t rfl (by (conv => lhs; whnf) <;> rfl))) ?_
    refine W_pure rfl rfl (po_bin (ev_t rfl (by (conv => lhs; whnf) <;> rfl)) (ev_t rfl (by (conv => lhs; whnf) <;> rfl)) (by (conv => lhs; whnf) <;> rfl)) ?_
    refine W_done ?_
    refine W_if (ev_t rfl (by (conv => lhs; whnf) <;> rfl)) (fun g1 => ?_) (fun g1 => ?_)
    · (try simp only [decide_eq_true_eq, decide_eq_false_iff_not, beq_iff_eq, beq_eq_false_iff_ne, bne_iff_ne, ne_eq, bne_eq_false_iff_eq, Bool.not_eq_true', Bool.not_eq_false', Bool.not_eq_true, Bool.not_eq_false, Bool.not_false, Bool.not_true, not_lt, not_le, Int.not_lt, Int.not_le, Decidable.not_not] at g1); (try simp at g1)
      refine W_skip ?_
      refine W_seq ?_
      refine W_block ?_
      refine W_seq ?_
      refine W_region rfl ?_
      refine W_pure rfl rfl (po_move (ev_t rfl (by (conv => lhs; whnf) <;> rfl))) ?_
      refine W_pure rfl rfl (po_move (ev_t rfl (by (conv => lhs; whnf) <;> rfl))) ?_
      refine W_pure rfl rfl (po_fieldAddr (ev_t rfl (by (conv => lhs; whnf) <;> rfl)) F27_0 T23 (by (conv => lhs; whnf) <;> rfl)) ?_
      refine W_pure rfl rfl (po_indexAddrA U23 T22 (ev_t rfl (by (conv => lhs; whnf) <;> rfl)) (ev_t rfl (by (conv => lhs; whnf) <;> rfl)) (by first | omega | (simp only [List.length_map, List.length_append, List.length_cons, List.length_nil] at *; omega)) (by first | omega | (simp only [List.length_map, List.length_append, List.length_cons, List.length_nil] at *; omega)) rfl) ?_
      refine W_pure rfl rfl (po_indexAddrA U22 T5 (ev_t rfl (by (conv => lhs; whnf) <;> rfl)) (ev_t rfl (by (conv => lhs; whnf) <;> rfl)) (by first | omega | (simp only [List.length_map, List.length_append, List.length_cons, List.length_nil] at *; omega)) (by first | omega | (simp only [List.length_map, List.length_append, List.length_cons, List.length_nil] at *; omega)) rfl) ?_
      refine W_pure rfl rfl (po_load (i := 5) (ev_t rfl (by (conv => lhs; whnf) <;> rfl)) K5 A5 rfl (cellR_at (b := b) (j := 7 * i + k) (by simp; omega) (by omega))) ?_
      refine W_pure rfl rfl (po_conv (ev_t rfl (by (conv => lhs; whnf) <;> rfl)) U5 U3) ?_
      refine W_turn 38 (by (conv => lhs; whnf) <;> rfl) (v' := int (b (7 * i + k))) (by have := hb (7 * i + k); rw [wrapI' _ (by omega) (by omega)]) ?_
      refine W_pure rfl rfl (po_rem (ev_t rfl (by (conv => lhs; whnf) <;> rfl)) rfl (by have := hb (7 * i + k); omega) (by have := hb (7 * i + k); omega)) ?_
      refine W_pure rfl rfl (po_assign (ev_t rfl (by (conv => lhs; whnf) <;> rfl))) ?_
      refine W_done ?_
      refine W_seq ?_
      refine W_region rfl ?_
      refine W_pure rfl rfl (po_move (ev_t rfl (by (conv => lhs; whnf) <;> rfl))) ?_
      refine W_pure rfl rfl (po_move (ev_t rfl (by (conv => lhs; whnf) <;> rfl))) ?_
      refine W_pure rfl rfl (po_bin (ev_t rfl (by (conv => lhs; whnf) <;> rfl)) (ev_t rfl (by (conv => lhs; whnf) <;> rfl)) (by (conv => lhs; whnf) <;> rfl)) ?_
      refine W_done ?_
      refine W_if (ev_t rfl (by (conv => lhs; whnf) <;> rfl)) (fun g2 => ?_) (fun g2 => ?_)
      · (try simp only [decide_eq_true_eq, decide_eq_false_iff_not, beq_iff_eq, beq_eq_false_iff_ne, bne_iff_ne, ne_eq, bne_eq_false_iff_eq, Bool.not_eq_true', Bool.not_eq_false', Bool.not_eq_true, Bool.not_eq_false, Bool.not_false, Bool.not_true, not_lt, not_le, Int.not_lt, Int.not_le, Decidable.not_not] at g2); (try simp at g2)
        have hik : i = k := by omega
        refine W_region rfl ?_
        refine W_pure rfl rfl (po_move (ev_t rfl (by (conv => lhs; whnf) <;> rfl))) ?_
        refine W_pure rfl rfl (po_struct evp_nil Z33 P33 rfl (by simp only [lay, nth, wr, vcells]; exact rfl)) ?_
        refine W_pureD rfl rfl (po_sliceD rfl U51 Z33 T33 rfl (evp_cons (ev_t rfl (by (conv => lhs; whnf) <;> rfl)) evp_nil) rfl (by first | rfl | simp [vcells]) (by simp [listSet]; rfl)) ?_
        refine W_eff rfl rfl (eff_append (i := 0) rfl rfl U51 U51 (by intro k h; cases h) T33 B33 rfl ZO33 (ev_t rfl (by (conv => lhs; whnf) <;> rfl)) (ev_t rfl (by (conv => lhs; whnf) <;> rfl)) (by first | exact SlOf.sl | exact SlOf.gr | exact SlOf.rd | exact SlOf.nil | assumption) rfl (by simp) (by simp [vcells, cellOK]) (by first | (simp [vcells]; done) | (simp only [List.mem_map]; rintro x ⟨p, -, rfl⟩; rfl)) (by simp at *; omega) (by simp only [zset]; exact rfl)) fun _ h_ => ?_
        refine W_pure rfl rfl (po_assign (ev_t rfl (by (conv => lhs; whnf) <;> rfl))) ?_
        refine W_done ?_
        refine W_inB ?_
        refine W_region rfl ?_
        refine W_pure rfl rfl (po_move (ev_t rfl (by (conv => lhs; whnf) <;> rfl))) ?_
        refine W_pure rfl rfl (po_add (ev_t rfl (by (conv => lhs; whnf) <;> rfl)) rfl (by first | omega | (simp only [List.length_map, List.length_append, List.length_cons, List.length_nil] at *; omega))) ?_
        refine W_pure rfl rfl (po_assign (ev_t rfl (by (conv => lhs; whnf) <;> rfl))) ?_
        refine W_done ?_
        exact ih1 (k + 1) _ _ (by omega) (by omega) (AE 13 (Eq.trans (by (conv => lhs; whnf) <;> rfl) (by first | rfl | (simp; done) | (simp [List.range_succ, minS, *]; done))) (AE 12 (Eq.trans (by (conv => lhs; whnf) <;> rfl) (by first | rfl | (simp; done) | (simp [List.range_succ, minS, *]; done))) AE_nil)) (AE 1 (by (conv => lhs; whnf) <;> rfl) (AE 2 (by (conv => lhs; whnf) <;> rfl) (AE 4 (by (conv => lhs; whnf) <;> rfl) (AE 8 (by (conv => lhs; whnf) <;> rfl) (AE 9 (by (conv => lhs; whnf) <;> rfl) (AE 10 (by (conv => lhs; whnf) <;> rfl) (AE 11 (by (conv => lhs; whnf) <;> rfl) AE_nil))))))) (by simp [zsets, zset])
      · (try simp only [decide_eq_true_eq, decide_eq_false_iff_not, beq_iff_eq, beq_eq_false_iff_ne, bne_iff_ne, ne_eq, bne_eq_false_iff_eq, Bool.not_eq_true', Bool.not_eq_false', Bool.not_eq_true, Bool.not_eq_false, Bool.not_false, Bool.not_true, not_lt, not_le, Int.not_lt, Int.not_le, Decidable.not_not] at g2); (try simp at g2)
        have hik : ¬ i = k := by omega
        refine W_region rfl ?_
        refine W_pure rfl rfl (po_move (ev_t rfl (by (conv => lhs; whnf) <;> rfl))) ?_
        refine W_pure rfl rfl (po_move (ev_t rfl (by (conv => lhs; whnf) <;> rfl))) ?_
        refine W_pure rfl rfl (po_move (ev_t rfl (by (conv => lhs; whnf) <;> rfl))) ?_
        refine W_pure rfl rfl (po_move (ev_t rfl (by (conv => lhs; whnf) <;> rfl))) ?_
        refine W_pure rfl rfl (po_move (ev_t rfl (by (conv => lhs; whnf) <;> rfl))) ?_
        refine W_pure rfl rfl (po_fieldAddr (ev_t rfl (by (conv => lhs; whnf) <;> rfl)) F27_0 T23 (by (conv => lhs; whnf) <;> rfl)) ?_
        refine W_pure rfl rfl (po_indexAddrA U23 T22 (ev_t rfl (by (conv => lhs; whnf) <;> rfl)) (ev_t rfl (by (conv => lhs; whnf) <;> rfl)) (by first | omega | (simp only [List.length_map, List.length_append, List.length_cons, List.length_nil] at *; omega)) (by first | omega | (simp only [List.length_map, List.length_append, List.length_cons, List.length_nil] at *; omega)) rfl) ?_
        refine W_pure rfl rfl (po_indexAddrA U22 T5 (ev_t rfl (by (conv => lhs; whnf) <;> rfl)) (ev_t rfl (by (conv => lhs; whnf) <;> rfl)) (by first | omega | (simp only [List.length_map, List.length_append, List.length_cons, List.length_nil] at *; omega)) (by first | omega | (simp only [List.length_map, List.length_append, List.length_cons, List.length_nil] at *; omega)) rfl) ?_
        refine W_pure rfl rfl (po_load (i := 5) (ev_t rfl (by (conv => lhs; whnf) <;> rfl)) K5 A5 rfl (cellR_at (b := b) (j := 7 * k + i) (by simp; omega) (by omega))) ?_
        refine W_pure rfl rfl (po_conv (ev_t rfl (by (conv => lhs; whnf) <;> rfl)) U5 U3) ?_
        refine W_turn 56 (by (conv => lhs; whnf) <;> rfl) (v' := int (b (7 * k + i))) (by have := hb (7 * k + i); rw [wrapI' _ (by omega) (by omega)]) ?_
        refine W_pure rfl rfl (po_rem (ev_t rfl (by (conv => lhs; whnf) <;> rfl)) rfl (by have := hb (7 * k + i); omega) (by have := hb (7 * k + i); omega)) ?_
        refine W_pure rfl rfl (po_add (ev_t rfl (by (conv => lhs; whnf) <;> rfl)) (ev_t rfl (by (conv => lhs; whnf) <;> rfl)) (by have := hb (7 * k + i); have := hb (7 * i + k); omega)) ?_
        refine W_call rfl rfl rfl rfl rfl (evl_cons (ev_t rfl (by (conv => lhs; whnf) <;> rfl)) (evl_cons (ev_t rfl (by (conv => lhs; whnf) <;> rfl)) evl_nil)) (fun σ hz => c17 _ _ σ) ?_
        refine W_pureD rfl rfl (po_sliceD rfl U51 Z33 T33 rfl (evp_cons (ev_t rfl (by (conv => lhs; whnf) <;> rfl)) evp_nil) rfl (by first | rfl | simp [vcells]) (by simp [listSet]; rfl)) ?_
        refine W_eff rfl rfl (eff_append (i := 0) rfl rfl U51 U51 (by intro k h; cases h) T33 B33 rfl ZO33 (ev_t rfl (by (conv => lhs; whnf) <;> rfl)) (ev_t rfl (by (conv => lhs; whnf) <;> rfl)) (by first | exact SlOf.sl | exact SlOf.gr | exact SlOf.rd | exact SlOf.nil | assumption) rfl (by simp) (by simp [vcells, cellOK]) (by first | (simp [vcells]; done) | (simp only [List.mem_map]; rintro x ⟨p, -, rfl⟩; rfl)) (by simp at *; omega) (by simp only [zset]; exact rfl)) fun _ h_ => ?_
        refine W_pure rfl rfl (po_assign (ev_t rfl (by (conv => lhs; whnf) <;> rfl))) ?_
        refine W_done ?_
        refine W_inB ?_
        refine W_region rfl ?_
        refine W_pure rfl rfl (po_move (ev_t rfl (by (conv => lhs; whnf) <;> rfl))) ?_
        refine W_pure rfl rfl (po_add (ev_t rfl (by (conv => lhs; whnf) <;> rfl)) rfl (by first | omega | (simp only [List.length_map, List.length_append, List.length_cons, List.length_nil] at *; omega))) ?_
        refine W_pure rfl rfl (po_assign (ev_t rfl (by (conv => lhs; whnf) <;> rfl))) ?_
        refine W_done ?_
        exact ih1 (k + 1) _ _ (by omega) (by omega) (AE 13 (Eq.trans (by (conv => lhs; whnf) <;> rfl) (by first | rfl | (simp; done) | (simp [List.range_succ, minS, *]; done))) (AE 12 (Eq.trans (by (conv => lhs; whnf) <;> rfl) (by first | rfl | (simp; done) | (simp [List.range_succ, minS, *]; done))) AE_nil)) (AE 1 (by (conv => lhs; whnf) <;> rfl) (AE 2 (by (conv => lhs; whnf) <;> rfl) (AE 4 (by (conv => lhs; whnf) <;> rfl) (AE 8 (by (conv => lhs; whnf) <;> rfl) (AE 9 (by (conv => lhs; whnf) <;> rfl) (AE 10 (by (conv => lhs; whnf) <;> rfl) (AE 11 (by (conv => lhs; whnf) <;> rfl) AE_nil))))))) (by simp [zsets, zset])
    · (try simp only [decide_eq_true_eq, decide_eq_false_iff_not, beq_iff_eq, beq_eq_false_iff_ne, bne_iff_ne, ne_eq, bne_eq_false_iff_eq, Bool.not_eq_true', Bool.not_eq_false', Bool.not_eq_true, Bool.not_eq_false, Bool.not_false, Bool.not_true, not_lt, not_le, Int.not_lt, Int.not_le, Decidable.not_not] at g1); (try simp at g1)
      have hend1 : k = br.length + 1 := by omega
      subst hend1
      refine W_exit rfl ?_
      refine W_region rfl ?_
      refine W_pure rfl rfl (po_fieldAddr (ev_t rfl (by (conv => lhs; whnf) <;> rfl)) F40_0 T37 (by (conv => lhs; whnf) <;> rfl)) ?_
      refine W_pure rfl rfl (po_load (i := 1) (ev_t rfl (by (conv => lhs; whnf) <;> rfl)) K37 A37 rfl rfl) ?_
      refine W_pure rfl rfl (po_move (ev_t rfl (by (conv => lhs; whnf) <;> rfl))) ?_
      refine W_pureD rfl rfl (po_sliceD rfl U37 Z51 T51 rfl (evp_cons (ev_t rfl (by (conv => lhs; whnf) <;> rfl)) evp_nil) rfl (by simp) (by simp [listSet]; rfl)) ?_
      refine W_eff rfl rfl (eff_append (i := 3) rfl rfl U37 U37 (by intro k h; cases h) T51 B51 rfl ZO51 (ev_t rfl (by (conv => lhs; whnf) <;> rfl)) (ev_t rfl (by (conv => lhs; whnf) <;> rfl)) (by first | exact SlOf.sl | exact SlOf.gr | exact SlOf.rd | exact SlOf.nil | assumption) rfl (by simp) (by simp) hvs.cells (by simp at *; omega) (by simp only [zset]; exact rfl)) fun _ h_ => ?_
      refine W_pure rfl rfl (po_fieldAddr (ev_t rfl (by (conv => lhs; whnf) <;> rfl)) F40_0 T37 (by (conv => lhs; whnf) <;> rfl)) ?_
      refine W_store (i := 1) rfl rfl rfl (ev_t rfl (by (conv => lhs; whnf) <;> rfl)) (ev_t rfl (by (conv => lhs; whnf) <;> rfl)) rfl (by first | exact vcells_gr | exact vcells_rd | exact (SlOf.cells (by assumption)).1 | ((conv => lhs; whnf) <;> rfl)) T37 rfl rfl (by first | rfl | (simp only [List.all_cons, List.all_nil, cellOK_gr, cellOK_rd]; rfl) | (simp; done) | (simp [cellOK]; done)) (by simp only [wr]; exact rfl) (by simp only [zset]; exact rfl) ?_
      refine W_done ?_
      refine W_inB ?_
      refine W_region rfl ?_
      refine W_pure rfl rfl (po_move (ev_t rfl (by (conv => lhs; whnf) <;> rfl))) ?_
      refine W_pure rfl rfl (po_add (ev_t rfl (by (conv => lhs; whnf) <;> rfl)) rfl (by first | omega | (simp only [List.length_map, List.length_append, List.length_cons, List.length_nil] at *; omega))) ?_
      refine W_pure rfl rfl (po_assign (ev_t rfl (by (conv => lhs; whnf) <;> rfl))) ?_
      refine W_done ?_
      refine W_less (.cons _ (.cons_cons _ (.cons_cons _ (.cons_cons _ (.cons_cons _ (.cons_cons _ .slnil)))))) ?_
      exact ih0 (i + 1, vs ++ [grSl false r26 ((rowS b br.length i).map span)]) _ _ (⟨by omega, hvs.push hr26⟩) (by simp; omega) (AE 11 (Eq.trans (by (conv => lhs; whnf) <;> rfl) (by first | rfl | (simp; done) | (simp; omega))) AE_nil) (AE 1 (by (conv => lhs; whnf) <;> rfl) (AE 2 (by (conv => lhs; whnf) <;> rfl) (AE 4 (by (conv => lhs; whnf) <;> rfl) (AE 8 (by (conv => lhs; whnf) <;> rfl) (AE 9 (by (conv => lhs; whnf) <;> rfl) (AE 10 (by (conv => lhs; whnf) <;> rfl) AE_nil)))))) (by simp [zsets, zset, rowS])
  · (try simp only [decide_eq_true_eq, decide_eq_false_iff_not, beq_iff_eq, beq_eq_false_iff_ne, bne_iff_ne, ne_eq, bne_eq_false_iff_eq, Bool.not_eq_true', Bool.not_eq_false', Bool.not_eq_true, Bool.not_eq_false, Bool.not_false, Bool.not_true, not_lt, not_le, Int.not_lt, Int.not_le, Decidable.not_not] at g0); (try simp at g0)
    have hend : i = br.length + 1 := by omega
    subst hend
    refine W_exit rfl ?_
    refine W_seq ?_
    refine W_seq ?_
    refine W_region rfl ?_
    refine W_pure rfl rfl (po_assign rfl) ?_
    refine W_done ?_
    refine W_block ?_
    refine W_loopI (S := Nat) (fun i => [(15, int i)]) [0, 1] (fun i => [.cells 40 [grSl true r17_0 vs, grSl true r17_1 (((List.range i).map (plS b br fe)).map place), int holds, int 0, int 5000], .tok 117 i]) (fun i => i ≤ br.length) (fun i => br.length - i) (0) (AE 1 (by (conv => lhs; whnf) <;> rfl) (AE 2 (by (conv => lhs; whnf) <;> rfl) (AE 4 (by (conv => lhs; whnf) <;> rfl) (AE 8 (by (conv => lhs; whnf) <;> rfl) (AE 9 (by (conv => lhs; whnf) <;> rfl) (AE 10 (by (conv => lhs; whnf) <;> rfl) AE_nil)))))) (AE 15 (Eq.trans (by (conv => lhs; whnf) <;> rfl) (by first | rfl | (simp; done) | (simp; omega))) AE_nil) (by simp [zsets, zset, grSl_nilT, grSl_nilF]) (Nat.zero_le _) ?_
    rintro i j2 hI2 ih2
    refine W_eqZ (by simp only [zsets, zset]; exact rfl) ?_
    refine W_seq ?_
    refine W_seq ?_
    refine W_region rfl ?_
    refine W_pure rfl rfl (po_move (ev_t rfl (by (conv => lhs; whnf) <;> rfl))) ?_
    refine W_pure rfl rfl (po_move (ev_t rfl (by (conv => lhs; whnf) <;> rfl))) ?_
    refine W_pure rfl rfl (po_sub (ev_t rfl (by (conv => lhs; whnf) <;> rfl)) rfl (by first | omega | (simp only [List.length_map, List.length_append, List.length_cons, List.length_nil] at *; omega))) ?_
    refine W_pure rfl rfl (po_bin (ev_t rfl (by (conv => lhs; whnf) <;> rfl)) (ev_t rfl (by (conv => lhs; whnf) <;> rfl)) (by (conv => lhs; whnf) <;> rfl)) ?_
    refine W_done ?_
    refine W_if (ev_t rfl (by (conv => lhs; whnf) <;> rfl)) (fun g3 => ?_) (fun g3 => ?_)
    · (try simp only [decide_eq_true_eq, decide_eq_false_iff_not, beq_iff_eq, beq_eq_false_iff_ne, bne_iff_ne, ne_eq, bne_eq_false_iff_eq, Bool.not_eq_true', Bool.not_eq_false', Bool.not_eq_true, Bool.not_eq_false, Bool.not_false, Bool.not_true, not_lt, not_le, Int.not_lt, Int.not_le, Decidable.not_not] at g3); (try simp at g3)
      have hlt : i < br.length := by omega
      obtain ⟨x, hx⟩ : ∃ x, br[i]? = some x := ⟨_, List.getElem?_eq_getElem hlt⟩
      obtain ⟨y, hy⟩ : ∃ y, fe[i]? = some y := ⟨_, List.getElem?_eq_getElem (by omega)⟩
      refine W_skip ?_
      refine W_seq ?_
      refine W_block ?_
      refine W_drawI (cs := [25, 27]) (gl := [0, 1, 2, 3, 4, 5, 6, 7, 8, 9, 10, 11, 12, 13, 14, 15, 16, 17, 18, 19, 20, 21, 22, 23, 24, 25, 26, 27]) [0, 1] (by simp only [zdrop, List.any_cons, List.any_nil, Nat.beq, Bool.or_false, cond_true, cond_false]; exact rfl) rfl rfl ?_
      refine DE_pureW (.cons _ (.cons _ (.cons_cons _ (.cons_cons _ (.cons_cons _ .slnil))))) (want_none rfl) rfl (po_fieldAddr (ev_t rfl (by (conv => lhs; whnf) <;> rfl)) F40_1 T38 (by (conv => lhs; whnf) <;> rfl)) ?_
      refine DE_locW (.cons _ (.cons _ (.cons_cons _ (.cons_cons _ (.cons_cons _ .slnil))))) rfl (want_none rfl) rfl (po_load (i := 0) (ev_t rfl (by (conv => lhs; whnf) <;> rfl)) K38 A38 rfl rfl) ?_
      refine DE_pureW (.cons _ (.cons _ (.cons_cons _ (.cons_cons _ (.cons_cons _ .slnil))))) (want_none rfl) rfl (po_move (ev_t rfl (by (conv => lhs; whnf) <;> rfl))) ?_
      refine DE_pureW (.cons _ (.cons _ (.cons_cons _ (.cons_cons _ (.cons_cons _ .slnil))))) (want_none rfl) rfl (po_fieldAddr (ev_t rfl (by (conv => lhs; whnf) <;> rfl)) F27_1 T25 (by (conv => lhs; whnf) <;> rfl)) ?_
      refine DE_pureW (.cons _ (.cons _ (.cons_cons _ (.cons_cons _ (.cons_cons _ .slnil))))) (want_none rfl) rfl (po_indexAddrA U25 T24 (ev_t rfl (by (conv => lhs; whnf) <;> rfl)) (ev_t rfl (by (conv => lhs; whnf) <;> rfl)) (by first | omega | (simp only [List.length_map, List.length_append, List.length_cons, List.length_nil] at *; omega)) (by first | omega | (simp only [List.length_map, List.length_append, List.length_cons, List.length_nil] at *; omega)) rfl) ?_
      refine DE_pureW (.cons _ (.cons _ (.cons_cons _ (.cons_cons _ (.cons_cons _ .slnil))))) (want_none rfl) rfl (po_indexAddrA U24 T5 (ev_t rfl (by (conv => lhs; whnf) <;> rfl)) rfl (by first | omega | (simp only [List.length_map, List.length_append, List.length_cons, List.length_nil] at *; omega)) (by first | omega | (simp only [List.length_map, List.length_append, List.length_cons, List.length_nil] at *; omega)) rfl) ?_
      refine DE_pureW (.cons _ (.cons _ (.cons_cons _ (.cons_cons _ (.cons_cons _ .slnil))))) (want_none rfl) rfl (po_load (i := 2) (ev_t rfl (by (conv => lhs; whnf) <;> rfl)) K5 A5 rfl (cellR_at (b := b) (j := 49 + 2 * i) (by simp; omega) (by omega))) ?_
      refine DE_pureW (.cons _ (.cons _ (.cons_cons _ (.cons_cons _ (.cons_cons _ .slnil))))) (want_none rfl) rfl (po_conv (ev_t rfl (by (conv => lhs; whnf) <;> rfl)) U5 U3) ?_
      refine DE_turn 81 (by (conv => lhs; whnf) <;> rfl) (v' := int (b (49 + 2 * i))) (by have := hb (49 + 2 * i); rw [wrapI' _ (by omega) (by omega)]) ?_
      refine DE_pureW (.cons _ (.cons _ (.cons_cons _ (.cons_cons _ (.cons_cons _ .slnil))))) (want_none rfl) rfl (po_move (ev_t rfl (by (conv => lhs; whnf) <;> rfl))) ?_
      refine DE_pureW (.cons _ (.cons _ (.cons_cons _ (.cons_cons _ (.cons_cons _ .slnil))))) (want_none rfl) rfl (po_fieldAddr (ev_t rfl (by (conv => lhs; whnf) <;> rfl)) F27_1 T25 (by (conv => lhs; whnf) <;> rfl)) ?_
      refine DE_pureW (.cons _ (.cons _ (.cons_cons _ (.cons_cons _ (.cons_cons _ .slnil))))) (want_none rfl) rfl (po_indexAddrA U25 T24 (ev_t rfl (by (conv => lhs; whnf) <;> rfl)) (ev_t rfl (by (conv => lhs; whnf) <;> rfl)) (by first | omega | (simp only [List.length_map, List.length_append, List.length_cons, List.length_nil] at *; omega)) (by first | omega | (simp only [List.length_map, List.length_append, List.length_cons, List.length_nil] at *; omega)) rfl) ?_
      refine DE_pureW (.cons _ (.cons _ (.cons_cons _ (.cons_cons _ (.cons_cons _ .slnil))))) (want_none rfl) rfl (po_indexAddrA U24 T5 (ev_t rfl (by (conv => lhs; whnf) <;> rfl)) rfl (by first | omega | (simp only [List.length_map, List.length_append, List.length_cons, List.length_nil] at *; omega)) (by first | omega | (simp only [List.length_map, List.length_append, List.length_cons, List.length_nil] at *; omega)) rfl) ?_
      refine DE_pureW (.cons _ (.cons _ (.cons_cons _ (.cons_cons _ (.cons_cons _ .slnil))))) (want_none rfl) rfl (po_load (i := 2) (ev_t rfl (by (conv => lhs; whnf) <;> rfl)) K5 A5 rfl (cellR_at (b := b) (j := 50 + 2 * i) (by simp; omega) (by omega))) ?_
      refine DE_pureW (.cons _ (.cons _ (.cons_cons _ (.cons_cons _ (.cons_cons _ .slnil))))) (want_none rfl) rfl (po_conv (ev_t rfl (by (conv => lhs; whnf) <;> rfl)) U5 U3) ?_
      refine DE_turn 87 (by (conv => lhs; whnf) <;> rfl) (v' := int (b (50 + 2 * i))) (by have := hb (50 + 2 * i); rw [wrapI' _ (by omega) (by omega)]) ?_
      refine DE_pureW (.cons _ (.cons _ (.cons_cons _ (.cons_cons _ (.cons_cons _ .slnil))))) (want_none rfl) rfl (po_rem (ev_t rfl (by (conv => lhs; whnf) <;> rfl)) rfl (by have := hb (50 + 2 * i); omega) (by have := hb (50 + 2 * i); omega)) ?_
      refine DE_pureW (.cons _ (.cons _ (.cons_cons _ (.cons_cons _ (.cons_cons _ .slnil))))) (want_none rfl) rfl (po_move (ev_t rfl (by (conv => lhs; whnf) <;> rfl))) ?_
      refine DE_pureW (.cons _ (.cons _ (.cons_cons _ (.cons_cons _ (.cons_cons _ .slnil))))) (want_none rfl) rfl (po_move (ev_t rfl (by (conv => lhs; whnf) <;> rfl))) ?_
      refine DE_pureW (.cons _ (.cons _ (.cons_cons _ (.cons_cons _ (.cons_cons _ .slnil))))) (want_none rfl) rfl (po_indexAddrS U31 T3 (ev_t rfl (by (conv => lhs; whnf) <;> rfl)) (by first | exact SlOf.sl | exact SlOf.gr | exact SlOf.rd | exact SlOf.nil | assumption) (ev_t rfl (by (conv => lhs; whnf) <;> rfl)) (by first | omega | (simp only [List.length_map, List.length_append, List.length_cons, List.length_nil] at *; omega)) (show _ = some (int x) by simp [hx]) (by first | exact vcells_gr | exact vcells_rd | exact (SlOf.cells (by assumption)).1 | ((conv => lhs; whnf) <;> rfl)) rfl) ?_
      refine DE_pureW (.cons _ (.cons _ (.cons_cons _ (.cons_cons _ (.cons_cons _ .slnil))))) (want_none rfl) rfl (po_loadR (ev_t rfl (by (conv => lhs; whnf) <;> rfl)) K3 A3) ?_
      refine DE_pureW (.cons _ (.cons _ (.cons_cons _ (.cons_cons _ (.cons_cons _ .slnil))))) (want_none rfl) rfl (po_move (ev_t rfl (by (conv => lhs; whnf) <;> rfl))) ?_
      refine DE_pureW (.cons _ (.cons _ (.cons_cons _ (.cons_cons _ (.cons_cons _ .slnil))))) (want_none rfl) rfl (po_move (ev_t rfl (by (conv => lhs; whnf) <;> rfl))) ?_
      refine DE_pureW (.cons _ (.cons _ (.cons_cons _ (.cons_cons _ (.cons_cons _ .slnil))))) (want_none rfl) rfl (po_indexAddrS U31 T3 (ev_t rfl (by (conv => lhs; whnf) <;> rfl)) (by first | exact SlOf.sl | exact SlOf.gr | exact SlOf.rd | exact SlOf.nil | assumption) (ev_t rfl (by (conv => lhs; whnf) <;> rfl)) (by first | omega | (simp only [List.length_map, List.length_append, List.length_cons, List.length_nil] at *; omega)) (show _ = some (int y) by simp [hy]) (by first | exact vcells_gr | exact vcells_rd | exact (SlOf.cells (by assumption)).1 | ((conv => lhs; whnf) <;> rfl)) rfl) ?_
      refine DE_pureW (.cons _ (.cons _ (.cons_cons _ (.cons_cons _ (.cons_cons _ .slnil))))) (want_none rfl) rfl (po_loadR (ev_t rfl (by (conv => lhs; whnf) <;> rfl)) K3 A3) ?_
      refine DE_pureW (.cons _ (.cons _ (.cons_cons _ (.cons_cons _ (.cons_cons _ .slnil))))) (want_none rfl) rfl (po_struct (evp_cons (ev_t rfl (by (conv => lhs; whnf) <;> rfl)) (evp_cons rfl (evp_cons (ev_t rfl (by (conv => lhs; whnf) <;> rfl)) (evp_cons (ev_t rfl (by (conv => lhs; whnf) <;> rfl)) (evp_cons (ev_t rfl (by (conv => lhs; whnf) <;> rfl)) evp_nil))))) Z117 P117 rfl (by simp only [lay, nth, wr, vcells]; exact rfl)) ?_
      refine DE_pureWD (.cons _ (.cons _ (.cons_cons _ (.cons_cons _ (.cons_cons _ .slnil))))) (want_none rfl) rfl (po_sliceD rfl U38 Z117 T117 rfl (evp_cons (ev_t rfl (by (conv => lhs; whnf) <;> rfl)) evp_nil) rfl (by first | rfl | simp [vcells]) (by simp [listSet]; rfl)) ?_
      refine DE_eff (.cons _ (.cons _ (.cons_cons _ (.cons_cons _ (.cons_cons _ .slnil))))) (want_none rfl) rfl rfl (eff_append (i := 1) rfl rfl U38 U38 (by intro k h; cases h) T117 B117 rfl ZO117 (ev_t rfl (by (conv => lhs; whnf) <;> rfl)) (ev_t rfl (by (conv => lhs; whnf) <;> rfl)) (by first | exact SlOf.sl | exact SlOf.gr | exact SlOf.rd | exact SlOf.nil | assumption) rfl (by simp) (by simp [vcells, cellOK]) (by first | (simp [vcells]; done) | (simp only [List.mem_map]; rintro x ⟨p, -, rfl⟩; rfl)) (by simp at *; omega) (by simp only [zset]; exact rfl)) fun _ h_ => ?_
      refine DE_pureW (.cons _ (.cons _ (.cons_cons _ (.cons_cons _ (.cons_cons _ .slnil))))) (want_none rfl) rfl (po_fieldAddr (ev_t rfl (by (conv => lhs; whnf) <;> rfl)) F40_1 T38 (by (conv => lhs; whnf) <;> rfl)) ?_
      refine DE_eff0 (.cons _ (.cons _ (.cons_cons _ (.cons_cons _ (.cons_cons _ .slnil))))) (want_none rfl) rfl rfl (eff_store (i := 0) (ev_t rfl (by (conv => lhs; whnf) <;> rfl)) (ev_t rfl (by (conv => lhs; whnf) <;> rfl)) rfl (by first | exact vcells_gr | exact vcells_rd | exact (SlOf.cells (by assumption)).1 | ((conv => lhs; whnf) <;> rfl)) T38 rfl rfl (by first | rfl | (simp only [List.all_cons, List.all_nil, cellOK_gr, cellOK_rd]; rfl) | (simp; done) | (simp [cellOK]; done)) (by simp only [wr]; exact rfl) (by simp only [zset]; exact rfl)) fun _ h_ => ?_
      refine DE_nil (.cons _ (.cons _ (.cons_cons _ (.cons_cons _ (.cons_cons _ .slnil))))) ?_
      refine W_inB ?_
      refine W_region rfl ?_
      refine W_pure rfl rfl (po_move (ev_t rfl (by (conv => lhs; whnf) <;> rfl))) ?_
      refine W_pure rfl rfl (po_add (ev_t rfl (by (conv => lhs; whnf) <;> rfl)) rfl (by first | omega | (simp only [List.length_map, List.length_append, List.length_cons, List.length_nil] at *; omega))) ?_
      refine W_pure rfl rfl (po_assign (ev_t rfl (by (conv => lhs; whnf) <;> rfl))) ?_
      refine W_done ?_
      exact ih2 (i + 1) _ _ (by omega) (by omega) (AE 15 (Eq.trans (by (conv => lhs; whnf) <;> rfl) (by first | rfl | (simp; done) | (simp; omega))) AE_nil) (AE 1 (by (conv => lhs; whnf) <;> rfl) (AE 2 (by (conv => lhs; whnf) <;> rfl) (AE 4 (by (conv => lhs; whnf) <;> rfl) (AE 8 (by (conv => lhs; whnf) <;> rfl) (AE 9 (by (conv => lhs; whnf) <;> rfl) (AE 10 (by (conv => lhs; whnf) <;> rfl) AE_nil)))))) (by simp [zsets, zset, List.range_succ, plS, hx, hy])
    · (try simp only [decide_eq_true_eq, decide_eq_false_iff_not, beq_iff_eq, beq_eq_false_iff_ne, bne_iff_ne, ne_eq, bne_eq_false_iff_eq, Bool.not_eq_true', Bool.not_eq_false', Bool.not_eq_true, Bool.not_eq_false, Bool.not_false, Bool.not_true, not_lt, not_le, Int.not_lt, Int.not_le, Decidable.not_not] at g3); (try simp at g3)
      have hend2 : i = br.length := by omega
      subst hend2
      refine W_exit rfl ?_
      refine W_seq ?_
      refine W_region rfl ?_
      refine W_pure rfl rfl (po_loadA (i := 0) (ev_t rfl (by (conv => lhs; whnf) <;> rfl)) K40 A40 T40 rfl rfl (by simp only [sub]; exact rfl)) ?_
      refine W_store (i := 3) rfl rfl rfl (ev_t rfl (by (conv => lhs; whnf) <;> rfl)) (ev_t rfl (by (conv => lhs; whnf) <;> rfl)) rfl (by first | exact vcells_gr | exact vcells_rd | exact (SlOf.cells (by assumption)).1 | ((conv => lhs; whnf) <;> rfl)) T40 rfl rfl (by first | rfl | (simp only [List.all_cons, List.all_nil, cellOK_gr, cellOK_rd]; rfl) | (simp; done) | (simp [cellOK]; done)) (by simp only [wr]; exact rfl) (by simp only [zset]; exact rfl) ?_
      refine W_done ?_
      exact W_ret fun fr σ' hf hz => ends_of (.inr rfl) hf hz rfl (show resOf _ _ _ _ _ from ⟨_, _, rfl, po_loadA (i := 3) (ev_t rfl (by (conv => lhs; whnf) <;> rfl)) K40 A40 T40 rfl rfl (by simp only [sub]; exact rfl), rfl⟩) rfl fun τ hz2 => by clear hf hz; have hf1 := freeze_gr (P := TC.P) (σ := τ) (d := 3) (nb := true) hr17_0 hvs.frozen; have hf2 := freeze_gr (P := TC.P) (σ := τ) (d := 3) (nb := true) hr17_1 (frL_still (xs := ((List.range br.length).map (plS b br fe)).map place) (still_map fun a => Still.agg (by simp [Still.int]))); simp only [packV, Ev.freeze, Ev.freeze.frL, hf1, hf2]; rfl

end Go.Proofs

set_option linter.unusedVariables false
set_option linter.unusedSimpArgs false
set_option maxRecDepth 10000
namespace Go.Proofs
open Go Go.Ev TryT

theorem c10e (t : Tsk) (vm vp : V) (tv : TaskV t vm vp) (order : List Int) (vo : V) (ho : SlOf vo (order.map int)) (ok : OkTask t) (oo : OkOrder t order) (he : order = []) (σ : St) : Run TC (.app false (.func (.func 10) [] []) [taskV t vm vp, vo]) σ (.val (.tup [.nilsl none, int 0])) σ := by
  refine fn_pure (n := 32) (fn := Try.f10) rfl Try.func10 rfl rfl rfl ?_
  refine W_seq ?_
  refine W_region rfl ?_
  refine W_box rfl rfl rfl (ev_t rfl (by (conv => lhs; whnf) <;> rfl)) (by first | exact vcells_gr | exact vcells_rd | exact (SlOf.cells (by assumption)).1 | ((conv => lhs; whnf) <;> rfl)) fun b2 hb2 => ?_
  refine W_allocG rfl rfl rfl Z31 U31 fun r4 b4 hr4 hb4 => ?_
  refine W_pure rfl rfl (po_assign rfl) ?_
  refine W_done ?_
  refine W_seq ?_
  refine W_region rfl ?_
  refine W_pure rfl rfl (po_loadA (i := 2) (ev_t rfl (by (conv => lhs; whnf) <;> rfl)) K40 A40 T40 rfl rfl (by simp only [sub]; exact rfl)) ?_
  refine W_pure rfl rfl (po_move (ev_t rfl (by (conv => lhs; whnf) <;> rfl))) ?_
  refine W_call rfl rfl rfl rfl rfl (evl_cons (ev_t rfl (by (conv => lhs; whnf) <;> rfl)) (evl_cons (ev_t rfl (by (conv => lhs; whnf) <;> rfl)) evl_nil)) (fun σ hz => c36 t vm vp tv ok order vo ho oo σ) ?_
  refine W_pure rfl rfl (po_move (ev_t rfl (by (conv => lhs; whnf) <;> rfl))) ?_
  refine W_pure rfl rfl (po_extract (ev_t rfl (by (conv => lhs; whnf) <;> rfl)) rfl) ?_
  refine W_pure rfl rfl (po_extract (ev_t rfl (by (conv => lhs; whnf) <;> rfl)) rfl) ?_
  refine W_alloc rfl rfl rfl Z119 (fun t h => by cases h) (by (conv => lhs; whnf) <;> rfl) fun b6 hb6 => ?_
  refine W_store (i := 0) rfl rfl rfl (ev_t rfl (by (conv => lhs; whnf) <;> rfl)) (ev_t rfl (by (conv => lhs; whnf) <;> rfl)) rfl (by first | exact vcells_gr | exact vcells_rd | exact (SlOf.cells (by assumption)).1 | ((conv => lhs; whnf) <;> rfl)) T119 rfl rfl (by first | rfl | (simp only [List.all_cons, List.all_nil, vcells, tv.cm, tv.cp]; rfl) | (simp; done) | (simp [cellOK]; done)) (by simp only [wr]; exact rfl) (by simp only [zset]; exact rfl) ?_
  refine W_pure rfl rfl (po_assign (ev_t rfl (by (conv => lhs; whnf) <;> rfl))) ?_
  refine W_done ?_
  refine W_seq ?_
  refine W_seq ?_
  refine W_region rfl ?_
  refine W_pure rfl rfl (po_move (ev_t rfl (by (conv => lhs; whnf) <;> rfl))) ?_
  refine W_pure rfl rfl (po_bin (ev_t rfl (by (conv => lhs; whnf) <;> rfl)) rfl (by (conv => lhs; whnf) <;> rfl)) ?_
  refine W_known 15 false (by (conv => lhs; whnf) <;> rfl) (by first | rfl | (congr 1; simp; done) | (congr 1; simp; omega) | (congr 1; simp only [decide_eq_true_eq, decide_eq_false_iff_not, List.length_map]; omega) | (congr 1; simp_all; done) | (congr 1; simp_all; omega)) ?_
  refine W_pure rfl rfl (po_move (ev_t rfl (by (conv => lhs; whnf) <;> rfl))) ?_
  refine W_yes rfl rfl rfl rfl rfl rfl (po_move (ev_t rfl (by (conv => lhs; whnf) <;> rfl))) ?_
  refine W_yes rfl rfl rfl rfl rfl rfl (po_lenS rfl U31 (ev_t rfl (by (conv => lhs; whnf) <;> rfl)) (by first | exact SlOf.sl | exact SlOf.gr | exact SlOf.rd | exact SlOf.nil | assumption)) ?_
  refine W_turn 18 (by (conv => lhs; whnf) <;> rfl) (v' := int order.length) (by simp) ?_
  refine W_yes rfl rfl rfl rfl rfl rfl (po_bin (ev_t rfl (by (conv => lhs; whnf) <;> rfl)) rfl (by (conv => lhs; whnf) <;> rfl)) ?_
  refine W_known 19 true (by (conv => lhs; whnf) <;> rfl) (by (subst he; rfl)) ?_
  refine W_pure rfl rfl (po_pickF (ev_t rfl (by (conv => lhs; whnf) <;> rfl)) (ev_t rfl (by (conv => lhs; whnf) <;> rfl))) ?_
  refine W_done ?_
  refine W_then (ev_t rfl (by (conv => lhs; whnf) <;> rfl)) ?_
  refine W_seq ?_
  refine W_region rfl ?_
  refine W_pure rfl rfl (po_move (ev_t rfl (by (conv => lhs; whnf) <;> rfl))) ?_
  refine W_store (i := 1) rfl rfl rfl (ev_t rfl (by (conv => lhs; whnf) <;> rfl)) rfl rfl (by first | exact vcells_gr | exact vcells_rd | exact (SlOf.cells (by assumption)).1 | ((conv => lhs; whnf) <;> rfl)) T31 rfl rfl (by first | rfl | (simp only [List.all_cons, List.all_nil, vcells, tv.cm, tv.cp]; rfl) | (simp; done) | (simp [cellOK]; done)) (by simp only [wr]; exact rfl) (by simp only [zset]; exact rfl) ?_
  refine W_pure rfl rfl (po_assign (ev_t rfl (by (conv => lhs; whnf) <;> rfl))) ?_
  refine W_done ?_
  exact W_ret fun fr σ' hf hz => ends_of (.inr rfl) hf hz rfl (show resOf _ _ _ _ _ from ⟨_, _, rfl, po_load (i := 1) (ev_t rfl (by (conv => lhs; whnf) <;> rfl)) K31 A31 rfl rfl, ⟨_, _, rfl, ev_t rfl (by (conv => lhs; whnf) <;> rfl), rfl⟩⟩) rfl fun τ hz2 => by clear hf hz; simp [packV, Ev.freeze, Ev.freeze.frL, Option.filter]


def loadsF (t : Tsk) (order : List Int) : List Int := if order = [] then [] else (legsL t order).map (fun l => l.load)
theorem c10a (t : Tsk) (vm vp : V) (tv : TaskV t vm vp) (order : List Int) (vo : V) (ho : SlOf vo (order.map int)) (ok : OkTask t) (oo : OkOrder t order) (σ : St) : Run TC (.app false (.func (.func 10) [] []) [taskV t vm vp, vo]) σ (.val (.tup [rdSl true ((loadsF t order).map int), int 0])) σ := by
  by_cases he : order = []
  · have := c10e t vm vp tv order vo ho ok oo he σ
    rw [show loadsF t order = [] by simp [loadsF, he]]
    rw [← rdSl_nilT] at this
    exact this
  · rw [show loadsF t order = (legsL t order).map (fun l => l.load) by simp [loadsF, he]]
    exact c10 t vm vp tv order vo ho ok oo he σ

/-! ### Tasks of OakRoads -/
theorem oak_places {b : Nat → Int} {br fe : List Int} {holds : Int} : (oakTask b br fe holds).places.length = br.length := by simp [oakTask]
theorem oak_pl {b : Nat → Int} {br fe : List Int} {holds x : Int} (h : 1 ≤ x ∧ x ≤ br.length) : plOf (oakTask b br fe holds) x = plS b br fe (x - 1).toNat := by
  have hlt : (x - 1).toNat < br.length := by omega
  simp [plOf, oakTask, List.getElem?_range (show x.toNat - 1 < br.length by omega)]
theorem oak_min {b : Nat → Int} {br fe : List Int} {holds x y : Int} (hx : 0 ≤ x ∧ x ≤ br.length) (hy : 0 ≤ y ∧ y ≤ br.length) : minOf (oakTask b br fe holds) x y = minS b x.toNat y.toNat := by
  simp [minOf, oakTask, rowS, List.getElem?_range (show x.toNat < br.length + 1 by omega), List.getElem?_range (show y.toNat < br.length + 1 by omega)]
theorem minS_ok {b : Nat → Int} (hb : Bytes b) (i k : Nat) : okSpan (minS b i k) ∧ (minS b i k).2 ≤ 103 := by
  have h1 := hb (7 * i + k)
  have h2 := hb (7 * k + i)
  unfold minS okSpan
  split
  · simp
  · simp only
    omega
theorem oak_body {b : Nat → Int} (hb : Bytes b) {br fe : List Int} {holds : Int} (hl : br.length ≤ 6) (hbr : ∀ x ∈ br, 0 ≤ x ∧ x ≤ 100) (hfe : ∀ x ∈ fe, 0 ≤ x ∧ x ≤ 100) : OkBody (oakTask b br fe holds) := by
  refine ⟨by rw [oak_places]; omega, by simp [oakTask], ?_, ?_, ?_, ?_⟩
  · intro row hr
    simp only [oakTask, List.mem_map] at hr
    obtain ⟨i, -, rfl⟩ := hr
    simp [rowS, oakTask]
  · intro row hr s hs
    simp only [oakTask, List.mem_map] at hr
    obtain ⟨i, -, rfl⟩ := hr
    simp only [rowS, List.mem_map] at hs
    obtain ⟨k, -, rfl⟩ := hs
    exact (minS_ok hb i k).1
  · intro i row h
    simp only [oakTask, List.getElem?_map] at h
    have hi : i < br.length + 1 := by
      rcases Nat.lt_or_ge i (br.length + 1) with h1 | h1
      · exact h1
      · rw [List.getElem?_eq_none (by simpa using h1)] at h; cases h
    rw [List.getElem?_range hi] at h
    simp at h
    subst h
    simp [rowS, List.getElem?_range hi, minS]
  · intro p hp
    simp only [oakTask, List.mem_map] at hp
    obtain ⟨i, -, rfl⟩ := hp
    have h1 := hb (49 + 2 * i)
    have h2 := hb (50 + 2 * i)
    have get : ∀ (l : List Int), (∀ x ∈ l, 0 ≤ x ∧ x ≤ 100) → 0 ≤ l.getD i 0 ∧ l.getD i 0 ≤ 100 := fun l hl => by
      rw [List.getD_eq_getElem?_getD]
      cases hx : l[i]? with
      | none => simp
      | some x => exact hl x (List.mem_of_getElem? hx)
    have h3 := get br hbr
    have h4 := get fe hfe
    simp only [plS, okPlace]
    omega
theorem oak_task {b : Nat → Int} (hb : Bytes b) {br fe : List Int} {holds : Int} (hl : br.length ≤ 6) (hbr : ∀ x ∈ br, 0 ≤ x ∧ x ≤ 100) (hfe : ∀ x ∈ fe, 0 ≤ x ∧ x ≤ 100) (hh : 0 ≤ holds ∧ holds ≤ 1000) : OkTask (oakTask b br fe holds) :=
  ⟨oak_body hb hl hbr hfe, hh, by simp [oakTask]⟩
theorem oak_tv {b : Nat → Int} {br fe : List Int} {holds : Int} : TaskV (oakTask b br fe holds) (vmS b br.length) (vpS b br fe) := by
  refine ⟨⟨_, SlOf.rd, by simp [oakTask], fun i r row hr hrow => ?_⟩, SlOf.rd, Still.rd ?_, Still.rd (still_map fun a => Still.agg (by simp [Still.int]))⟩
  · have hi : i < br.length + 1 := by have := (List.getElem?_eq_some_iff.1 hr).1; simpa using this
    simp only [oakTask, List.getElem?_map, List.getElem?_range hi, Option.map_some, Option.some.injEq] at hr hrow
    subst hr
    subst hrow
    exact SlOf.rd
  · intro c hc
    obtain ⟨i, -, rfl⟩ := List.mem_map.1 hc
    exact Still.rd (still_map fun a => Still.agg (by simp [Still.int]))
/-- A round over the roads is back in time. -/
theorem oak_lv {b : Nat → Int} (hb : Bytes b) {br fe : List Int} {holds : Int} (hl : br.length ≤ 6) {order : List Int} (hw : ∀ x ∈ order, 1 ≤ x ∧ x ≤ (br.length : Int)) :
    ∀ i, i ≤ order.length → (0 ≤ (lsAt (oakTask b br fe holds) order i).at_ ∧ (lsAt (oakTask b br fe holds) order i).at_ ≤ br.length) ∧ (lsAt (oakTask b br fe holds) order i).lv.2 ≤ 420 * i
  | 0, _ => by simp [lsAt, ls0, oakTask]
  | i + 1, hi => by
    have ih := oak_lv (holds := holds) (fe := fe) hb hl hw i (by omega)
    obtain ⟨x, hx⟩ : ∃ x, order[i]? = some x := ⟨_, List.getElem?_eq_getElem (by omega)⟩
    have hxw := hw x (List.mem_of_getElem? hx)
    have hm := minS_ok hb (lsAt (oakTask b br fe holds) order i).at_.toNat x.toNat
    have h1 := hb (49 + 2 * (x - 1).toNat)
    have h2 := hb (50 + 2 * (x - 1).toNat)
    rw [lsAt_succ hx]
    simp only [lstep, comesTo, ifmax, oak_pl hxw, oak_min ih.1 (show 0 ≤ x ∧ x ≤ br.length by omega), plS]
    unfold okSpan at hm
    omega
theorem oak_until {b : Nat → Int} {br fe : List Int} {holds p : Int} (hp : 0 ≤ p ∧ p ≤ br.length) : untilF (oakTask b br fe holds) p = 5000 := by
  unfold untilF
  split
  · rfl
  · rw [oak_pl (by omega)]; rfl
theorem oak_leg {b : Nat → Int} (hb : Bytes b) {br fe : List Int} {holds : Int} (hl : br.length ≤ 6) {order : List Int} (hw : ∀ x ∈ order, 1 ≤ x ∧ x ≤ (br.length : Int)) (ho : order.length ≤ 11) {i : Nat} (hi : i ≤ order.length) :
    faulty (oakTask b br fe holds) (legAt (oakTask b br fe holds) order i) = decide ((lsAt (oakTask b br fe holds) order i).load > holds) := by
  have h1 := oak_lv (holds := holds) (fe := fe) hb hl hw i hi
  have hto := toAt_ok (t := oakTask b br fe holds) (order := order) (by rw [oak_places]; exact hw) i
  rw [oak_places] at hto
  have hm := minS_ok hb (lsAt (oakTask b br fe holds) order i).at_.toNat (toAt order i).toNat
  unfold okSpan at hm
  have h2 : (legAt (oakTask b br fe holds) order i).comes.2 ≤ 5000 := by
    simp only [legAt, comesTo, oak_min h1.1 hto]
    omega
  have h3 : untilF (oakTask b br fe holds) (legAt (oakTask b br fe holds) order i).to = 5000 := oak_until hto
  have h4 : decide ((legAt (oakTask b br fe holds) order i).comes.2 > untilF (oakTask b br fe holds) (legAt (oakTask b br fe holds) order i).to) = false := by rw [h3]; simp; omega
  unfold faulty full
  rw [h4]
  simp [legAt, oakTask]
/-- It serves if the cart never has too much. -/
theorem oak_fine {b : Nat → Int} (hb : Bytes b) {br fe : List Int} {holds : Int} (hl : br.length ≤ 6) {order : List Int} (hw : ∀ x ∈ order, 1 ≤ x ∧ x ≤ (br.length : Int)) (ho : order.length ≤ 11)
    (hld : ∀ i, i ≤ order.length → (lsAt (oakTask b br fe holds) order i).load ≤ holds) : (legsL (oakTask b br fe holds) order).find? (faulty (oakTask b br fe holds)) = none := by
  refine find_not fun y hy => ?_
  simp only [legsL, List.mem_map, List.mem_range] at hy
  obtain ⟨i, hi, rfl⟩ := hy
  rw [oak_leg hb hl hw ho (by omega)]
  have := hld i (by omega)
  simp
  omega

end Go.Proofs

set_option linter.unusedVariables false
set_option linter.unusedSimpArgs false
set_option maxRecDepth 10000
namespace Go.Proofs
open Go Go.Ev TryT


/-! ### TopRoundPierced -/
theorem cellsR_len {b : Nat → Int} : (cellsR b).length = 61 := by simp [cellsR]
theorem cellsR_sub {b : Nat → Int} : sub (cellsR b) 0 61 = cellsR b := by rw [sub_eq]; simp [cellsR_len, List.take_of_length_le]
theorem cellsR_ble {b : Nat → Int} : Nat.ble (0 + 61) (cellsR b).length = true := by rw [cellsR_len]; rfl
abbrev u8 (n : Int) : V := .int .u8 n
def brS (sk : List Int) (i : Nat) : Int := sk.getD i 0 % 101
def brL (sk : List Int) (n : Nat) : List Int := (List.range n).map (brS sk)
def feS (of high : Int) (sk : List Int) (i : Nat) : Int := brS sk i - breaks of high (brS sk i)
def feL (of high : Int) (sk : List Int) (n : Nat) : List Int := (List.range n).map (feS of high sk)
def allL (n : Nat) : List Int := (List.range n).map fun (i : Nat) => (i : Int) + 1
def sumL (sk : List Int) (n : Nat) : Int := (brL sk n).sum
def Small (sk : List Int) : Prop := ∀ x ∈ sk, 0 ≤ x ∧ x < 256
theorem brS_ok {sk : List Int} (h : Small sk) (i : Nat) : 0 ≤ brS sk i ∧ brS sk i ≤ 100 := by
  unfold brS
  rw [List.getD_eq_getElem?_getD]
  cases hx : sk[i]? with
  | none => simp
  | some x => have := h x (List.mem_of_getElem? hx); simp; omega
theorem sumL_succ (sk : List Int) (n : Nat) : sumL sk (n + 1) = sumL sk n + brS sk n := by simp [sumL, brL, List.range_succ]
theorem sumL_ok {sk : List Int} (h : Small sk) : ∀ n, 0 ≤ sumL sk n ∧ sumL sk n ≤ 100 * n
  | 0 => by simp [sumL, brL]
  | n + 1 => by have := sumL_ok h n; have := brS_ok h n; rw [sumL_succ]; omega
structure Pierced (of high : Int) (sk : List Int) : Prop where
  small : Small sk
  of_ : 2 ≤ of ∧ of ≤ 10 ∧ 0 ≤ high ∧ high ≤ of
theorem feS_ok {of high : Int} {sk : List Int} (h : Pierced of high sk) (i : Nat) : 0 ≤ feS of high sk i ∧ feS of high sk i ≤ brS sk i := by
  have h1 := brS_ok h.small i
  have h2 := breaks_le h.of_ h1.1
  unfold feS
  omega
theorem brL_len (sk : List Int) (n : Nat) : (brL sk n).length = n := by simp [brL]
theorem feL_len (of high : Int) (sk : List Int) (n : Nat) : (feL of high sk n).length = n := by simp [feL]
theorem allL_len (n : Nat) : (allL n).length = n := by simp [allL]
theorem allL_within (n : Nat) : ∀ x ∈ allL n, 1 ≤ x ∧ x ≤ (n : Int) := fun x hx => by
  simp only [allL, List.mem_map, List.mem_range] at hx
  obtain ⟨i, hi, rfl⟩ := hx
  omega
theorem allL_asc (n : Nat) : (allL n).Pairwise (· < ·) := by
  unfold allL
  rw [List.pairwise_map]
  exact List.Pairwise.imp (fun h => by omega) List.pairwise_lt_range
theorem allL_at {n i : Nat} (h : i < n) : (allL n)[i]? = some ((i : Int) + 1) := by simp [allL, List.getElem?_range h]
abbrev tP (b : Nat → Int) (of high : Int) (sk : List Int) (n : Nat) (holds : Int) : Tsk := oakTask b (brL sk n) (feL of high sk n) holds
theorem okP {b : Nat → Int} (hb : Bytes b) {of high : Int} {sk : List Int} (h : Pierced of high sk) {n : Nat} (hn : n ≤ 6) {holds : Int} (hh : 0 ≤ holds ∧ holds ≤ 1000) : OkTask (tP b of high sk n holds) := by
  refine oak_task hb (by rw [brL_len]; exact hn) (fun x hx => ?_) (fun x hx => ?_) hh
  · simp only [brL, List.mem_map] at hx
    obtain ⟨i, -, rfl⟩ := hx
    exact brS_ok h.small i
  · simp only [feL, List.mem_map] at hx
    obtain ⟨i, -, rfl⟩ := hx
    have := feS_ok h i
    have := brS_ok h.small i
    omega
theorem ooP {b : Nat → Int} {of high : Int} {sk : List Int} {n : Nat} (hn : n ≤ 6) {holds : Int} : OkOrder (tP b of high sk n holds) (allL n) :=
  ⟨⟨allL n, c81 _ (allL_asc n) (by rw [allL_len]; omega), (allL_asc n).imp (fun h => by omega), rfl⟩, by rw [oak_places, brL_len]; exact allL_within n, by rw [allL_len]; omega⟩
theorem withinP {sk : List Int} (n : Nat) : ∀ x ∈ allL n, 1 ≤ x ∧ x ≤ ((brL sk n).length : Int) := by rw [brL_len]; exact allL_within n
theorem plP {b : Nat → Int} {of high : Int} {sk : List Int} {n i : Nat} (hi : i < n) {holds : Int} : (plOf (tP b of high sk n holds) ((i : Int) + 1)).brought = brS sk i ∧ (plOf (tP b of high sk n holds) ((i : Int) + 1)).fetched = feS of high sk i := by
  rw [oak_pl (by rw [brL_len]; omega)]
  simp [plS, brL, feL, List.getElem?_range hi]
theorem load0P {b : Nat → Int} {of high : Int} {sk : List Int} {n : Nat} {holds : Int} : load0 (tP b of high sk n holds) (allL n) = sumL sk n := by
  unfold load0 sumL brL allL
  rw [List.map_map]
  congr 1
  refine List.map_congr_left fun i hi => ?_
  have hi : i < n := by simpa using hi
  exact (plP (of := of) (high := high) hi).1
theorem loadP {b : Nat → Int} {of high : Int} {sk : List Int} (h : Pierced of high sk) {n : Nat} {holds : Int} : ∀ i, i ≤ n → (lsAt (tP b of high sk n holds) (allL n) i).load ≤ sumL sk n
  | 0, _ => by simp [lsAt, ls0, load0P]
  | i + 1, hi => by
    have ih := loadP (b := b) (n := n) (holds := holds) h i (by omega)
    rw [lsAt_succ (allL_at (n := n) (by omega))]
    have h1 := plP (b := b) (of := of) (high := high) (sk := sk) (n := n) (i := i) (holds := holds) (by omega)
    have h2 := feS_ok h i
    simp only [lstep]
    omega
theorem faultP {b : Nat → Int} (hb : Bytes b) {of high : Int} {sk : List Int} (h : Pierced of high sk) {n : Nat} (hn : n ≤ 6) : (legsL (tP b of high sk n (sumL sk n)) (allL n)).find? (faulty (tP b of high sk n (sumL sk n))) = none :=
  oak_fine hb (by rw [brL_len]; exact hn) (withinP n) (by rw [allL_len]; omega) fun i hi => loadP h i (by rw [allL_len] at hi; exact hi)
theorem faultP1 {b : Nat → Int} (hb : Bytes b) {of high : Int} {sk : List Int} (h : Pierced of high sk) {n : Nat} (hn : n ≤ 6) : faultF (tP b of high sk n (sumL sk n)) (allL n) = (0, false, 7) := by
  unfold faultF; rw [faultP hb h hn]
theorem later0 (t : Tsk) : later t 0 = t := by simp [later]
theorem servesP {b : Nat → Int} (hb : Bytes b) {of high : Int} {sk : List Int} (h : Pierced of high sk) {n : Nat} (hn : n ≤ 6) : serves (tP b of high sk n (sumL sk n)) (allL n) 0 = true := by
  unfold serves backF; rw [later0, faultP hb h hn]
theorem faultP2 {b : Nat → Int} {of high : Int} {sk : List Int} {n : Nat} : faultF (tP b of high sk n (sumL sk n - 1)) (allL n) = (0, true, 0) := by
  have h0 : (legsL (tP b of high sk n (sumL sk n - 1)) (allL n))[0]? = some (legAt (tP b of high sk n (sumL sk n - 1)) (allL n) 0) := by simp [legsL]
  have hl : full (tP b of high sk n (sumL sk n - 1)) (legAt (tP b of high sk n (sumL sk n - 1)) (allL n) 0) = true := by
    simp only [full, legAt, lsAt, ls0, List.take_zero, List.foldl_nil, load0P]
    simp [oakTask]
    omega
  unfold faultF
  rw [find_first h0 (by simp [faulty, hl]) (by simp)]
  simp only [hl]
  simp [legAt]
theorem loadsP {b : Nat → Int} {of high : Int} {sk : List Int} (h : Pierced of high sk) {n i : Nat} {x : Int} {holds : Int} (hx : (loadsF (tP b of high sk n holds) (allL n))[i]? = some x) : x ≤ sumL sk n ∧ (i = 0 → x = sumL sk n) := by
  unfold loadsF at hx
  split at hx
  · simp at hx
  · rw [List.getElem?_map] at hx
    have hi : i < n + 1 := by
      rcases Nat.lt_or_ge i (n + 1) with h1 | h1
      · exact h1
      · rw [List.getElem?_eq_none (by simp [legsL, allL_len]; omega)] at hx; cases hx
    rw [show (legsL (tP b of high sk n holds) (allL n))[i]? = some (legAt (tP b of high sk n holds) (allL n) i) by simp [legsL, allL_len, List.getElem?_range hi]] at hx
    simp at hx
    subst hx
    refine ⟨loadP h i (by omega), ?_⟩
    rintro rfl
    simp [legAt, lsAt, ls0, load0P]
theorem lateF_nn (t : Tsk) (order : List Int) : 0 ≤ lateF t order := bs_ge _ _ _ _
theorem loads_len {t : Tsk} {order : List Int} : (loadsF t order).length ≤ order.length + 1 := by
  unfold loadsF
  split
  · simp
  · simp [legs_len]

theorem c3 (b : Nat → Int) (hb : Bytes b) (sk : List Int) (hsk : Small sk) (vs : V) (hvs : SlOf vs (sk.map u8)) (v0 v1 : Int) (hv0 : 0 ≤ v0 ∧ v0 < 256) (hv1 : 0 ≤ v1 ∧ v1 < 256) (σ : St) :
    Run TC (.app false (.func (.func 3) [] []) [.agg (cellsR b), vs, .agg [u8 v0, u8 v1]]) σ (.val (.bool true)) σ := by
  have hm1 := Int.emod_lt_of_pos v1 (b := 2 + v0 % 9 + 1) (by omega)
  have hm2 := Int.emod_nonneg v1 (b := 2 + v0 % 9 + 1) (by omega)
  have hP : Pierced (2 + v0 % 9) (v1 % (2 + v0 % 9 + 1)) sk := ⟨hsk, by omega⟩
  refine fn_pure (n := 192) (fn := Try.f3) rfl Try.func3 rfl rfl rfl ?_
  refine W_seq ?_
  refine W_region rfl ?_
  refine W_box rfl rfl rfl (ev_t rfl (by (conv => lhs; whnf) <;> rfl)) (show vcells (.agg (cellsR b)) = cellsR b from rfl) fun b3 hb3 => ?_
  refine W_box rfl rfl rfl (ev_t rfl (by (conv => lhs; whnf) <;> rfl)) (by first | exact vcells_gr | exact vcells_rd | exact (SlOf.cells (by assumption)).1 | ((conv => lhs; whnf) <;> rfl)) fun b5 hb5 => ?_
  refine W_pure rfl rfl (po_assign rfl) ?_
  refine W_done ?_
  refine W_seq ?_
  refine W_region rfl ?_
  refine W_pure rfl rfl (po_indexAddrA U24 T5 (ev_t rfl (by (conv => lhs; whnf) <;> rfl)) rfl (by first | omega | (simp only [List.length_map, List.length_append, List.length_cons, List.length_nil] at *; omega)) (by first | omega | (simp only [List.length_map, List.length_append, List.length_cons, List.length_nil] at *; omega)) rfl) ?_
  refine W_pure rfl rfl (po_load (i := 0) (ev_t rfl (by (conv => lhs; whnf) <;> rfl)) K5 A5 rfl rfl) ?_
  refine W_pure rfl rfl (po_conv (ev_t rfl (by (conv => lhs; whnf) <;> rfl)) U5 U3) ?_
  refine W_turn 30 (by (conv => lhs; whnf) <;> rfl) (v' := int v0) (by rw [wrapI' _ (by omega) (by omega)]) ?_
  refine W_pure rfl rfl (po_rem (ev_t rfl (by (conv => lhs; whnf) <;> rfl)) rfl (by first | omega | (simp only [List.length_map, List.length_append, List.length_cons, List.length_nil] at *; omega)) (by first | omega | (simp only [List.length_map, List.length_append, List.length_cons, List.length_nil] at *; omega))) ?_
  refine W_pure rfl rfl (po_add rfl (ev_t rfl (by (conv => lhs; whnf) <;> rfl)) (by first | omega | (simp only [List.length_map, List.length_append, List.length_cons, List.length_nil] at *; omega))) ?_
  refine W_pure rfl rfl (po_struct (evp_cons (ev_t rfl (by (conv => lhs; whnf) <;> rfl)) evp_nil) Z30 P30 rfl (by simp only [lay, nth, wr, vcells]; exact rfl)) ?_
  refine W_alloc rfl rfl rfl Z30 (fun t h => by cases h) (by (conv => lhs; whnf) <;> rfl) fun b7 hb7 => ?_
  refine W_store (i := 0) rfl rfl rfl (ev_t rfl (by (conv => lhs; whnf) <;> rfl)) (ev_t rfl (by (conv => lhs; whnf) <;> rfl)) rfl (by first | exact vcells_gr | exact vcells_rd | exact (SlOf.cells (by assumption)).1 | ((conv => lhs; whnf) <;> rfl)) T30 rfl rfl (by first | rfl | (simp only [List.all_cons, List.all_nil, vmS, vpS, cellOK_gr, cellOK_rd]; rfl) | (simp; done) | (simp [cellOK]; done)) (by simp only [wr]; exact rfl) (by simp only [zset]; exact rfl) ?_
  refine W_done ?_
  refine W_seq ?_
  refine W_region rfl ?_
  refine W_pure rfl rfl (po_indexAddrA U24 T5 (ev_t rfl (by (conv => lhs; whnf) <;> rfl)) rfl (by first | omega | (simp only [List.length_map, List.length_append, List.length_cons, List.length_nil] at *; omega)) (by first | omega | (simp only [List.length_map, List.length_append, List.length_cons, List.length_nil] at *; omega)) rfl) ?_
  refine W_pure rfl rfl (po_load (i := 1) (ev_t rfl (by (conv => lhs; whnf) <;> rfl)) K5 A5 rfl rfl) ?_
  refine W_pure rfl rfl (po_conv (ev_t rfl (by (conv => lhs; whnf) <;> rfl)) U5 U3) ?_
  refine W_turn 36 (by (conv => lhs; whnf) <;> rfl) (v' := int v1) (by rw [wrapI' _ (by omega) (by omega)]) ?_
  refine W_pure rfl rfl (po_fieldAddr (ev_t rfl (by (conv => lhs; whnf) <;> rfl)) F30_0 T3 (by (conv => lhs; whnf) <;> rfl)) ?_
  refine W_pure rfl rfl (po_load (i := 0) (ev_t rfl (by (conv => lhs; whnf) <;> rfl)) K3 A3 rfl rfl) ?_
  refine W_pure rfl rfl (po_add (ev_t rfl (by (conv => lhs; whnf) <;> rfl)) rfl (by first | omega | (simp only [List.length_map, List.length_append, List.length_cons, List.length_nil] at *; omega))) ?_
  refine W_pure rfl rfl (po_rem (ev_t rfl (by (conv => lhs; whnf) <;> rfl)) (ev_t rfl (by (conv => lhs; whnf) <;> rfl)) (by first | omega | (simp only [List.length_map, List.length_append, List.length_cons, List.length_nil] at *; omega)) (by first | omega | (simp only [List.length_map, List.length_append, List.length_cons, List.length_nil] at *; omega))) ?_
  refine W_pure rfl rfl (po_fieldAddr (ev_t rfl (by (conv => lhs; whnf) <;> rfl)) F30_1 T3 (by (conv => lhs; whnf) <;> rfl)) ?_
  refine W_store (i := 0) rfl rfl rfl (ev_t rfl (by (conv => lhs; whnf) <;> rfl)) (ev_t rfl (by (conv => lhs; whnf) <;> rfl)) rfl (by first | exact vcells_gr | exact vcells_rd | exact (SlOf.cells (by assumption)).1 | ((conv => lhs; whnf) <;> rfl)) T3 rfl rfl (by first | rfl | (simp only [List.all_cons, List.all_nil, vmS, vpS, cellOK_gr, cellOK_rd]; rfl) | (simp; done) | (simp [cellOK]; done)) (by simp only [wr]; exact rfl) (by simp only [zset]; exact rfl) ?_
  refine W_done ?_
  refine W_seq ?_
  refine W_region rfl ?_
  refine W_pureD rfl rfl (po_sliceD rfl U31 Z3 T3 rfl evp_nil rfl (by first | rfl | simp [vcells]) (by simp [listSet]; rfl)) ?_
  refine W_ghost (d := 42) 3 false rfl (by first | rfl | simp) fun r42 hr42 => ?_
  refine W_pureD rfl rfl (po_sliceD rfl U31 Z3 T3 rfl evp_nil rfl (by first | rfl | simp [vcells]) (by simp [listSet]; rfl)) ?_
  refine W_ghost (d := 43) 3 false rfl (by first | rfl | simp) fun r43 hr43 => ?_
  refine W_pureD rfl rfl (po_sliceD rfl U31 Z3 T3 rfl evp_nil rfl (by first | rfl | simp [vcells]) (by simp [listSet]; rfl)) ?_
  refine W_ghost (d := 44) 3 false rfl (by first | rfl | simp) fun r44 hr44 => ?_
  refine W_pure rfl rfl (po_assign (ev_t rfl (by (conv => lhs; whnf) <;> rfl))) ?_
  refine W_pure rfl rfl (po_assign (ev_t rfl (by (conv => lhs; whnf) <;> rfl))) ?_
  refine W_pure rfl rfl (po_assign (ev_t rfl (by (conv => lhs; whnf) <;> rfl))) ?_
  refine W_pure rfl rfl (po_assign rfl) ?_
  refine W_done ?_
  refine W_seq ?_
  refine W_seq ?_
  refine W_region rfl ?_
  refine W_pure rfl rfl (po_assign rfl) ?_
  refine W_done ?_
  refine W_block ?_
  refine W_loopJ (S := Nat) (fun i => [(8, grSl false r42 ((brL sk i).map int)), (9, grSl false r43 ((feL (2 + v0 % 9) (v1 % (2 + v0 % 9 + 1)) sk i).map int)), (10, grSl false r44 ((allL i).map int)), (11, int (sumL sk i)), (12, int i)]) [2, 1, 0] (fun i => [.tok 3 i, .tok 3 i, .tok 3 i]) (fun i => i ≤ 6) (fun i => i ≤ 6) (fun i => 6 - i) (0) (AE 1 (by (conv => lhs; whnf) <;> rfl) (AE 3 (by (conv => lhs; whnf) <;> rfl) (AE 6 (by (conv => lhs; whnf) <;> rfl) (AE 7 (by (conv => lhs; whnf) <;> rfl) AE_nil)))) (AE 8 (Eq.trans (by (conv => lhs; whnf) <;> rfl) (by first | rfl | (simp; done) | (simp; omega))) (AE 9 (Eq.trans (by (conv => lhs; whnf) <;> rfl) (by first | rfl | (simp; done) | (simp; omega))) (AE 10 (Eq.trans (by (conv => lhs; whnf) <;> rfl) (by first | rfl | (simp; done) | (simp; omega))) (AE 11 (Eq.trans (by (conv => lhs; whnf) <;> rfl) (by first | rfl | (simp; done) | (simp; omega))) (AE 12 (Eq.trans (by (conv => lhs; whnf) <;> rfl) (by first | rfl | (simp; done) | (simp; omega))) AE_nil))))) (by simp [zsets, zset, grSl_nilT, grSl_nilF, brL, feL, allL, sumL]) (by omega) ?_ ?_
  · rintro i j0 hI0 ih0 ex0
    have hsl := sumL_ok hsk i
    have hbl := brL_len sk i
    have hfl := feL_len (2 + v0 % 9) (v1 % (2 + v0 % 9 + 1)) sk i
    have hal := allL_len i
    refine W_eqZ (by simp only [zsets, zset]; exact rfl) ?_
    refine W_seq ?_
    refine W_seq ?_
    refine W_region rfl ?_
    refine W_pure rfl rfl (po_move (ev_t rfl (by (conv => lhs; whnf) <;> rfl))) ?_
    refine W_pure rfl rfl (po_move (ev_t rfl (by (conv => lhs; whnf) <;> rfl))) ?_
    refine W_pure rfl rfl (po_lenS rfl U28 (ev_t rfl (by (conv => lhs; whnf) <;> rfl)) (by first | exact SlOf.sl | exact SlOf.gr | exact SlOf.rd | exact SlOf.nil | assumption)) ?_
    refine W_pure rfl rfl (po_bin (ev_t rfl (by (conv => lhs; whnf) <;> rfl)) (ev_t rfl (by (conv => lhs; whnf) <;> rfl)) (by (conv => lhs; whnf) <;> rfl)) ?_
    refine W_pure rfl rfl (po_move (ev_t rfl (by (conv => lhs; whnf) <;> rfl))) ?_
    refine W_split (t := 49) (by (conv => lhs; whnf) <;> rfl) (fun g1 => ?_) (fun g1 => ?_)
    · (try simp only [decide_eq_true_eq, decide_eq_false_iff_not, beq_iff_eq, beq_eq_false_iff_ne, bne_iff_ne, ne_eq, bne_eq_false_iff_eq, Bool.not_eq_true', Bool.not_eq_false', Bool.not_eq_true, Bool.not_eq_false, Bool.not_false, Bool.not_true, not_lt, not_le, Int.not_lt, Int.not_le, Decidable.not_not] at g1); (try simp at g1)
      obtain ⟨x, hx⟩ : ∃ x, sk[i]? = some x := ⟨_, List.getElem?_eq_getElem (by omega)⟩
      have hxs := hsk x (List.mem_of_getElem? hx)
      have hbs := brS_ok hsk i
      have hbk := breaks_le hP.of_ hbs.1
      refine W_yes rfl rfl rfl rfl rfl rfl (po_move (ev_t rfl (by (conv => lhs; whnf) <;> rfl))) ?_
      refine W_yes rfl rfl rfl rfl rfl rfl (po_bin (ev_t rfl (by (conv => lhs; whnf) <;> rfl)) rfl (by (conv => lhs; whnf) <;> rfl)) ?_
      refine W_pure rfl rfl (po_pickT (ev_t rfl (by (conv => lhs; whnf) <;> rfl)) (ev_t rfl (by (conv => lhs; whnf) <;> rfl))) ?_
      refine W_done ?_
      refine W_if (ev_t rfl (by (conv => lhs; whnf) <;> rfl)) (fun g1 => ?_) (fun g1 => ?_)
      · (try simp only [decide_eq_true_eq, decide_eq_false_iff_not, beq_iff_eq, beq_eq_false_iff_ne, bne_iff_ne, ne_eq, bne_eq_false_iff_eq, Bool.not_eq_true', Bool.not_eq_false', Bool.not_eq_true, Bool.not_eq_false, Bool.not_false, Bool.not_true, not_lt, not_le, Int.not_lt, Int.not_le, Decidable.not_not] at g1); (try simp at g1)
        refine W_skip ?_
        refine W_seq ?_
        refine W_block ?_
        refine W_seq ?_
        refine W_region rfl ?_
        refine W_pure rfl rfl (po_move (ev_t rfl (by (conv => lhs; whnf) <;> rfl))) ?_
        refine W_pure rfl rfl (po_move (ev_t rfl (by (conv => lhs; whnf) <;> rfl))) ?_
        refine W_pure rfl rfl (po_indexAddrS U28 T5 (ev_t rfl (by (conv => lhs; whnf) <;> rfl)) (by first | exact SlOf.sl | exact SlOf.gr | exact SlOf.rd | exact SlOf.nil | assumption) (ev_t rfl (by (conv => lhs; whnf) <;> rfl)) (by first | omega | (simp only [List.length_map, List.length_append, List.length_cons, List.length_nil] at *; omega)) (show _ = some (u8 x) by simp [hx]) (by first | exact vcells_gr | exact vcells_rd | exact (SlOf.cells (by assumption)).1 | ((conv => lhs; whnf) <;> rfl)) rfl) ?_
        refine W_pure rfl rfl (po_loadR (ev_t rfl (by (conv => lhs; whnf) <;> rfl)) K5 A5) ?_
        refine W_pure rfl rfl (po_conv (ev_t rfl (by (conv => lhs; whnf) <;> rfl)) U5 U3) ?_
        refine W_turn 59 (by (conv => lhs; whnf) <;> rfl) (v' := int x) (by rw [wrapI' _ (by omega) (by omega)]) ?_
        refine W_pure rfl rfl (po_rem (ev_t rfl (by (conv => lhs; whnf) <;> rfl)) rfl (by first | omega | (simp only [List.length_map, List.length_append, List.length_cons, List.length_nil] at *; omega)) (by first | omega | (simp only [List.length_map, List.length_append, List.length_cons, List.length_nil] at *; omega))) ?_
        refine W_turn 60 (by (conv => lhs; whnf) <;> rfl) (v' := int (brS sk i)) (by simp [brS, hx]) ?_
        refine W_pure rfl rfl (po_assign (ev_t rfl (by (conv => lhs; whnf) <;> rfl))) ?_
        refine W_done ?_
        refine W_seq ?_
        refine W_region rfl ?_
        refine W_pure rfl rfl (po_loadA (i := 3) (ev_t rfl (by (conv => lhs; whnf) <;> rfl)) K30 A30 T30 rfl rfl (by simp only [sub]; exact rfl)) ?_
        refine W_pure rfl rfl (po_move (ev_t rfl (by (conv => lhs; whnf) <;> rfl))) ?_
        refine W_call rfl rfl rfl rfl rfl (evl_cons (ev_t rfl (by (conv => lhs; whnf) <;> rfl)) (evl_cons (ev_t rfl (by (conv => lhs; whnf) <;> rfl)) evl_nil)) (fun σ hz => c8 _ _ _ hP.of_ (by omega) σ) ?_
        refine W_pure rfl rfl (po_move (ev_t rfl (by (conv => lhs; whnf) <;> rfl))) ?_
        refine W_pure rfl rfl (po_extract (ev_t rfl (by (conv => lhs; whnf) <;> rfl)) rfl) ?_
        refine W_pure rfl rfl (po_extract (ev_t rfl (by (conv => lhs; whnf) <;> rfl)) rfl) ?_
        refine W_alloc rfl rfl rfl Z33 (fun t h => by cases h) (by (conv => lhs; whnf) <;> rfl) fun b14 hb14 => ?_
        refine W_store (i := 0) rfl rfl rfl (ev_t rfl (by (conv => lhs; whnf) <;> rfl)) (ev_t rfl (by (conv => lhs; whnf) <;> rfl)) rfl (by first | exact vcells_gr | exact vcells_rd | exact (SlOf.cells (by assumption)).1 | ((conv => lhs; whnf) <;> rfl)) T33 rfl rfl (by first | rfl | (simp only [List.all_cons, List.all_nil, vmS, vpS, cellOK_gr, cellOK_rd]; rfl) | (simp; done) | (simp [cellOK]; done)) (by simp only [wr]; exact rfl) (by simp only [zset]; exact rfl) ?_
        refine W_pure rfl rfl (po_assign (ev_t rfl (by (conv => lhs; whnf) <;> rfl))) ?_
        refine W_done ?_
        refine W_seq ?_
        refine W_seq ?_
        refine W_region rfl ?_
        refine W_pure rfl rfl (po_move (ev_t rfl (by (conv => lhs; whnf) <;> rfl))) ?_
        refine W_pure rfl rfl (po_bin (ev_t rfl (by (conv => lhs; whnf) <;> rfl)) rfl (by (conv => lhs; whnf) <;> rfl)) ?_
        refine W_known 68 false (by (conv => lhs; whnf) <;> rfl) (by first | rfl | (congr 1; simp; done) | (congr 1; simp; omega) | (congr 1; simp only [decide_eq_true_eq, decide_eq_false_iff_not, List.length_map]; omega) | (congr 1; simp_all; done) | (congr 1; simp_all; omega)) ?_
        refine W_pure rfl rfl (po_move (ev_t rfl (by (conv => lhs; whnf) <;> rfl))) ?_
        refine W_yes rfl rfl rfl rfl rfl rfl (po_fieldAddr (ev_t rfl (by (conv => lhs; whnf) <;> rfl)) F33_0 T3 (by (conv => lhs; whnf) <;> rfl)) ?_
        refine W_yes rfl rfl rfl rfl rfl rfl (po_load (i := 0) (ev_t rfl (by (conv => lhs; whnf) <;> rfl)) K3 A3 rfl rfl) ?_
        refine W_yes rfl rfl rfl rfl rfl rfl (po_bin (ev_t rfl (by (conv => lhs; whnf) <;> rfl)) rfl (by (conv => lhs; whnf) <;> rfl)) ?_
        refine W_known 72 false (by (conv => lhs; whnf) <;> rfl) (by first | rfl | (congr 1; simp; done) | (congr 1; simp; omega) | (congr 1; simp only [decide_eq_true_eq, decide_eq_false_iff_not, List.length_map]; omega) | (congr 1; simp_all; done) | (congr 1; simp_all; omega)) ?_
        refine W_pure rfl rfl (po_pickF (ev_t rfl (by (conv => lhs; whnf) <;> rfl)) (ev_t rfl (by (conv => lhs; whnf) <;> rfl))) ?_
        refine W_pure rfl rfl (po_move (ev_t rfl (by (conv => lhs; whnf) <;> rfl))) ?_
        refine W_yes rfl rfl rfl rfl rfl rfl (po_fieldAddr (ev_t rfl (by (conv => lhs; whnf) <;> rfl)) F33_0 T3 (by (conv => lhs; whnf) <;> rfl)) ?_
        refine W_yes rfl rfl rfl rfl rfl rfl (po_load (i := 0) (ev_t rfl (by (conv => lhs; whnf) <;> rfl)) K3 A3 rfl rfl) ?_
        refine W_yes rfl rfl rfl rfl rfl rfl (po_move (ev_t rfl (by (conv => lhs; whnf) <;> rfl))) ?_
        refine W_yes rfl rfl rfl rfl rfl rfl (po_bin (ev_t rfl (by (conv => lhs; whnf) <;> rfl)) (ev_t rfl (by (conv => lhs; whnf) <;> rfl)) (by (conv => lhs; whnf) <;> rfl)) ?_
        refine W_known 78 false (by (conv => lhs; whnf) <;> rfl) (by first | rfl | (congr 1; simp; done) | (congr 1; simp; omega) | (congr 1; simp only [decide_eq_true_eq, decide_eq_false_iff_not, List.length_map]; omega) | (congr 1; simp_all; done) | (congr 1; simp_all; omega)) ?_
        refine W_pure rfl rfl (po_pickF (ev_t rfl (by (conv => lhs; whnf) <;> rfl)) (ev_t rfl (by (conv => lhs; whnf) <;> rfl))) ?_
        refine W_done ?_
        refine W_else (ev_t rfl (by (conv => lhs; whnf) <;> rfl)) ?_
        refine W_skip ?_
        refine W_drawI (cs := [3, 8, 13]) (gl := [0, 1, 2, 3, 4, 5, 6, 7, 8, 9, 10, 11, 12, 13, 17, 18, 19, 14, 15, 16, 20]) [2, 1, 3] (by simp only [zdrop, List.any_cons, List.any_nil, Nat.beq, Bool.or_false, cond_true, cond_false]; exact rfl) rfl rfl ?_
        refine DE_pureW (.cons_cons _ (.cons _ (.cons _ (.cons _ (.cons_cons _ (.cons_cons _ (.cons_cons _ .slnil))))))) (want_none rfl) rfl (po_move (ev_t rfl (by (conv => lhs; whnf) <;> rfl))) ?_
        refine DE_pureW (.cons_cons _ (.cons _ (.cons _ (.cons _ (.cons_cons _ (.cons_cons _ (.cons_cons _ .slnil))))))) (want_none rfl) rfl (po_move (ev_t rfl (by (conv => lhs; whnf) <;> rfl))) ?_
        refine DE_pureWD (.cons_cons _ (.cons _ (.cons _ (.cons _ (.cons_cons _ (.cons_cons _ (.cons_cons _ .slnil))))))) (want_none rfl) rfl (po_sliceD rfl U31 Z3 T3 rfl (evp_cons (ev_t rfl (by (conv => lhs; whnf) <;> rfl)) evp_nil) rfl (by first | rfl | simp [vcells]) (by simp [listSet]; rfl)) ?_
        refine DE_eff (.cons_cons _ (.cons _ (.cons _ (.cons _ (.cons_cons _ (.cons_cons _ (.cons_cons _ .slnil))))))) (want_none rfl) rfl rfl (eff_append (i := 3) rfl rfl U31 U31 (by intro k h; cases h) T3 B3 rfl ZO3 (ev_t rfl (by (conv => lhs; whnf) <;> rfl)) (ev_t rfl (by (conv => lhs; whnf) <;> rfl)) (by first | exact SlOf.sl | exact SlOf.gr | exact SlOf.rd | exact SlOf.nil | assumption) rfl (by simp [brL_len, feL_len, allL_len]) (by simp [vcells, cellOK]) (by first | (simp [vcells]; done) | (simp only [List.mem_map]; rintro x ⟨p, -, rfl⟩; rfl)) (by simp at *; omega) (by simp only [zset]; exact rfl)) fun _ h_ => ?_
        refine DE_pureW (.cons_cons _ (.cons _ (.cons _ (.cons _ (.cons_cons _ (.cons_cons _ (.cons_cons _ .slnil))))))) (want_none rfl) rfl (po_move (ev_t rfl (by (conv => lhs; whnf) <;> rfl))) ?_
        refine DE_pureW (.cons_cons _ (.cons _ (.cons _ (.cons _ (.cons_cons _ (.cons_cons _ (.cons_cons _ .slnil))))))) (want_none rfl) rfl (po_fieldAddr (ev_t rfl (by (conv => lhs; whnf) <;> rfl)) F33_0 T3 (by (conv => lhs; whnf) <;> rfl)) ?_
        refine DE_pureW (.cons_cons _ (.cons _ (.cons _ (.cons _ (.cons_cons _ (.cons_cons _ (.cons_cons _ .slnil))))))) (want_none rfl) rfl (po_load (i := 0) (ev_t rfl (by (conv => lhs; whnf) <;> rfl)) K3 A3 rfl rfl) ?_
        refine DE_pureWD (.cons_cons _ (.cons _ (.cons _ (.cons _ (.cons_cons _ (.cons_cons _ (.cons_cons _ .slnil))))))) (want_none rfl) rfl (po_sliceD rfl U31 Z3 T3 rfl (evp_cons (ev_t rfl (by (conv => lhs; whnf) <;> rfl)) evp_nil) rfl (by first | rfl | simp [vcells]) (by simp [listSet]; rfl)) ?_
        refine DE_eff (.cons_cons _ (.cons _ (.cons _ (.cons _ (.cons_cons _ (.cons_cons _ (.cons_cons _ .slnil))))))) (want_none rfl) rfl rfl (eff_append (i := 2) rfl rfl U31 U31 (by intro k h; cases h) T3 B3 rfl ZO3 (ev_t rfl (by (conv => lhs; whnf) <;> rfl)) (ev_t rfl (by (conv => lhs; whnf) <;> rfl)) (by first | exact SlOf.sl | exact SlOf.gr | exact SlOf.rd | exact SlOf.nil | assumption) rfl (by simp [brL_len, feL_len, allL_len]) (by simp [vcells, cellOK]) (by first | (simp [vcells]; done) | (simp only [List.mem_map]; rintro x ⟨p, -, rfl⟩; rfl)) (by simp at *; omega) (by simp only [zset]; exact rfl)) fun _ h_ => ?_
        refine DE_pureW (.cons_cons _ (.cons _ (.cons _ (.cons _ (.cons_cons _ (.cons_cons _ (.cons_cons _ .slnil))))))) (want_none rfl) rfl (po_move (ev_t rfl (by (conv => lhs; whnf) <;> rfl))) ?_
        refine DE_pureW (.cons_cons _ (.cons _ (.cons _ (.cons _ (.cons_cons _ (.cons_cons _ (.cons_cons _ .slnil))))))) (want_none rfl) rfl (po_move (ev_t rfl (by (conv => lhs; whnf) <;> rfl))) ?_
        refine DE_pureW (.cons_cons _ (.cons _ (.cons _ (.cons _ (.cons_cons _ (.cons_cons _ (.cons_cons _ .slnil))))))) (want_none rfl) rfl (po_add (ev_t rfl (by (conv => lhs; whnf) <;> rfl)) rfl (by first | omega | (simp only [List.length_map, List.length_append, List.length_cons, List.length_nil] at *; omega))) ?_
        refine DE_pureWD (.cons_cons _ (.cons _ (.cons _ (.cons _ (.cons_cons _ (.cons_cons _ (.cons_cons _ .slnil))))))) (want_none rfl) rfl (po_sliceD rfl U31 Z3 T3 rfl (evp_cons (ev_t rfl (by (conv => lhs; whnf) <;> rfl)) evp_nil) rfl (by first | rfl | simp [vcells]) (by simp [listSet]; rfl)) ?_
        refine DE_eff (.cons_cons _ (.cons _ (.cons _ (.cons _ (.cons_cons _ (.cons_cons _ (.cons_cons _ .slnil))))))) (want_none rfl) rfl rfl (eff_append (i := 1) rfl rfl U31 U31 (by intro k h; cases h) T3 B3 rfl ZO3 (ev_t rfl (by (conv => lhs; whnf) <;> rfl)) (ev_t rfl (by (conv => lhs; whnf) <;> rfl)) (by first | exact SlOf.sl | exact SlOf.gr | exact SlOf.rd | exact SlOf.nil | assumption) rfl (by simp [brL_len, feL_len, allL_len]) (by simp [vcells, cellOK]) (by first | (simp [vcells]; done) | (simp only [List.mem_map]; rintro x ⟨p, -, rfl⟩; rfl)) (by simp at *; omega) (by simp only [zset]; exact rfl)) fun _ h_ => ?_
        refine DE_pureW (.cons_cons _ (.cons _ (.cons _ (.cons _ (.cons_cons _ (.cons_cons _ (.cons_cons _ .slnil))))))) (want_none rfl) rfl (po_move (ev_t rfl (by (conv => lhs; whnf) <;> rfl))) ?_
        refine DE_pureW (.cons_cons _ (.cons _ (.cons _ (.cons _ (.cons_cons _ (.cons_cons _ (.cons_cons _ .slnil))))))) (want_none rfl) rfl (po_move (ev_t rfl (by (conv => lhs; whnf) <;> rfl))) ?_
        refine DE_pureW (.cons_cons _ (.cons _ (.cons _ (.cons _ (.cons_cons _ (.cons_cons _ (.cons_cons _ .slnil))))))) (want_none rfl) rfl (po_add (ev_t rfl (by (conv => lhs; whnf) <;> rfl)) (ev_t rfl (by (conv => lhs; whnf) <;> rfl)) (by first | omega | (simp only [List.length_map, List.length_append, List.length_cons, List.length_nil] at *; omega))) ?_
        refine DE_pureW (.cons_cons _ (.cons _ (.cons _ (.cons _ (.cons_cons _ (.cons_cons _ (.cons_cons _ .slnil))))))) (want_none rfl) rfl (po_assign (ev_t rfl (by (conv => lhs; whnf) <;> rfl))) ?_
        refine DE_pureW (.cons_cons _ (.cons _ (.cons _ (.cons _ (.cons_cons _ (.cons_cons _ (.cons_cons _ .slnil))))))) (want_none rfl) rfl (po_assign (ev_t rfl (by (conv => lhs; whnf) <;> rfl))) ?_
        refine DE_pureW (.cons_cons _ (.cons _ (.cons _ (.cons _ (.cons_cons _ (.cons_cons _ (.cons_cons _ .slnil))))))) (want_none rfl) rfl (po_assign (ev_t rfl (by (conv => lhs; whnf) <;> rfl))) ?_
        refine DE_pureW (.cons_cons _ (.cons _ (.cons _ (.cons _ (.cons_cons _ (.cons_cons _ (.cons_cons _ .slnil))))))) (want_none rfl) rfl (po_assign (ev_t rfl (by (conv => lhs; whnf) <;> rfl))) ?_
        refine DE_nil (.cons_cons _ (.cons _ (.cons _ (.cons _ (.cons_cons _ (.cons_cons _ (.cons_cons _ .slnil))))))) ?_
        refine W_inB ?_
        refine W_region rfl ?_
        refine W_pure rfl rfl (po_move (ev_t rfl (by (conv => lhs; whnf) <;> rfl))) ?_
        refine W_pure rfl rfl (po_add (ev_t rfl (by (conv => lhs; whnf) <;> rfl)) rfl (by first | omega | (simp only [List.length_map, List.length_append, List.length_cons, List.length_nil] at *; omega))) ?_
        refine W_pure rfl rfl (po_assign (ev_t rfl (by (conv => lhs; whnf) <;> rfl))) ?_
        refine W_done ?_
        refine W_less (.cons _ (.cons_cons _ (.cons_cons _ (.cons_cons _ (.cons_cons _ (.cons_cons _ (.cons_cons _ .slnil))))))) ?_
        exact ih0 (i + 1) _ _ (by omega) (by omega) (AE 8 (Eq.trans (by (conv => lhs; whnf) <;> rfl) (by first | rfl | (simp [brL, feL, allL, sumL_succ, feS, List.range_succ]; done))) (AE 9 (Eq.trans (by (conv => lhs; whnf) <;> rfl) (by first | rfl | (simp [brL, feL, allL, sumL_succ, feS, List.range_succ]; done))) (AE 10 (Eq.trans (by (conv => lhs; whnf) <;> rfl) (by first | rfl | (simp [brL, feL, allL, sumL_succ, feS, List.range_succ]; done))) (AE 11 (Eq.trans (by (conv => lhs; whnf) <;> rfl) (by first | rfl | (simp [brL, feL, allL, sumL_succ, feS, List.range_succ]; done))) (AE 12 (Eq.trans (by (conv => lhs; whnf) <;> rfl) (by first | rfl | (simp [brL, feL, allL, sumL_succ, feS, List.range_succ]; done))) AE_nil))))) (AE 1 (by (conv => lhs; whnf) <;> rfl) (AE 3 (by (conv => lhs; whnf) <;> rfl) (AE 6 (by (conv => lhs; whnf) <;> rfl) (AE 7 (by (conv => lhs; whnf) <;> rfl) AE_nil)))) (by simp [zsets, zset, brL_len, feL_len, allL_len])
      · (try simp only [decide_eq_true_eq, decide_eq_false_iff_not, beq_iff_eq, beq_eq_false_iff_ne, bne_iff_ne, ne_eq, bne_eq_false_iff_eq, Bool.not_eq_true', Bool.not_eq_false', Bool.not_eq_true, Bool.not_eq_false, Bool.not_false, Bool.not_true, not_lt, not_le, Int.not_lt, Int.not_le, Decidable.not_not] at g1); (try simp at g1)
        refine W_exit rfl ?_
        exact ex0 (i) _ _ (hI0) (AE 8 (Eq.trans (by (conv => lhs; whnf) <;> rfl) (by first | rfl | (simp [brL, feL, allL, sumL_succ, feS, List.range_succ]; done))) (AE 9 (Eq.trans (by (conv => lhs; whnf) <;> rfl) (by first | rfl | (simp [brL, feL, allL, sumL_succ, feS, List.range_succ]; done))) (AE 10 (Eq.trans (by (conv => lhs; whnf) <;> rfl) (by first | rfl | (simp [brL, feL, allL, sumL_succ, feS, List.range_succ]; done))) (AE 11 (Eq.trans (by (conv => lhs; whnf) <;> rfl) (by first | rfl | (simp [brL, feL, allL, sumL_succ, feS, List.range_succ]; done))) (AE 12 (Eq.trans (by (conv => lhs; whnf) <;> rfl) (by first | rfl | (simp [brL, feL, allL, sumL_succ, feS, List.range_succ]; done))) AE_nil))))) (AE 1 (by (conv => lhs; whnf) <;> rfl) (AE 3 (by (conv => lhs; whnf) <;> rfl) (AE 6 (by (conv => lhs; whnf) <;> rfl) (AE 7 (by (conv => lhs; whnf) <;> rfl) AE_nil)))) (by simp [zsets, zset, brL_len, feL_len, allL_len])
    · (try simp only [decide_eq_true_eq, decide_eq_false_iff_not, beq_iff_eq, beq_eq_false_iff_ne, bne_iff_ne, ne_eq, bne_eq_false_iff_eq, Bool.not_eq_true', Bool.not_eq_false', Bool.not_eq_true, Bool.not_eq_false, Bool.not_false, Bool.not_true, not_lt, not_le, Int.not_lt, Int.not_le, Decidable.not_not] at g1); (try simp at g1)
      refine W_no rfl rfl rfl rfl rfl rfl ?_
      refine W_no rfl rfl rfl rfl rfl rfl ?_
      refine W_pure rfl rfl (po_pickF (ev_t rfl (by (conv => lhs; whnf) <;> rfl)) rfl) ?_
      refine W_done ?_
      refine W_else (ev_t rfl (by (conv => lhs; whnf) <;> rfl)) ?_
      refine W_exit rfl ?_
      exact ex0 (i) _ _ (hI0) (AE 8 (Eq.trans (by (conv => lhs; whnf) <;> rfl) (by first | rfl | (simp [brL, feL, allL, sumL_succ, feS, List.range_succ]; done))) (AE 9 (Eq.trans (by (conv => lhs; whnf) <;> rfl) (by first | rfl | (simp [brL, feL, allL, sumL_succ, feS, List.range_succ]; done))) (AE 10 (Eq.trans (by (conv => lhs; whnf) <;> rfl) (by first | rfl | (simp [brL, feL, allL, sumL_succ, feS, List.range_succ]; done))) (AE 11 (Eq.trans (by (conv => lhs; whnf) <;> rfl) (by first | rfl | (simp [brL, feL, allL, sumL_succ, feS, List.range_succ]; done))) (AE 12 (Eq.trans (by (conv => lhs; whnf) <;> rfl) (by first | rfl | (simp [brL, feL, allL, sumL_succ, feS, List.range_succ]; done))) AE_nil))))) (AE 1 (by (conv => lhs; whnf) <;> rfl) (AE 3 (by (conv => lhs; whnf) <;> rfl) (AE 6 (by (conv => lhs; whnf) <;> rfl) (AE 7 (by (conv => lhs; whnf) <;> rfl) AE_nil)))) (by simp [zsets, zset, brL_len, feL_len, allL_len])
  · rintro i j0 hE0
    have hsl := sumL_ok hsk i
    have hbl := brL_len sk i
    have hfl := feL_len (2 + v0 % 9) (v1 % (2 + v0 % 9 + 1)) sk i
    have hal := allL_len i
    have ok := okP hb hP hE0 (holds := sumL sk i) (by omega)
    have oo : OkOrder (tP b (2 + v0 % 9) (v1 % (2 + v0 % 9 + 1)) sk i (sumL sk i)) (allL i) := ooP hE0
    have tv : TaskV (tP b (2 + v0 % 9) (v1 % (2 + v0 % 9 + 1)) sk i (sumL sk i)) _ _ := oak_tv
    have hflt := faultP1 hb hP hE0
    have hsv := servesP hb hP hE0
    refine W_eqZ (by simp only [zsets, zset]; exact rfl) ?_
    refine W_seq ?_
    refine W_region rfl ?_
    refine W_pure rfl rfl (po_loadA (i := 5) (ev_t rfl (by (conv => lhs; whnf) <;> rfl)) K27 A27 T27 rfl cellsR_ble cellsR_sub) ?_
    refine W_pure rfl rfl (po_move (ev_t rfl (by (conv => lhs; whnf) <;> rfl))) ?_
    refine W_pure rfl rfl (po_move (ev_t rfl (by (conv => lhs; whnf) <;> rfl))) ?_
    refine W_pure rfl rfl (po_move (ev_t rfl (by (conv => lhs; whnf) <;> rfl))) ?_
    refine W_call rfl rfl rfl rfl rfl (evl_cons (ev_t rfl (by (conv => lhs; whnf) <;> rfl)) (evl_cons (ev_t rfl (by (conv => lhs; whnf) <;> rfl)) (evl_cons (ev_t rfl (by (conv => lhs; whnf) <;> rfl)) (evl_cons (ev_t rfl (by (conv => lhs; whnf) <;> rfl)) evl_nil)))) (fun σ hz => c9 b hb _ _ (by rw [brL_len]; exact hE0) (by rw [brL_len, feL_len]) _ _ SlOf.gr SlOf.gr _ σ) ?_
    refine W_alloc rfl rfl rfl Z40 (fun t h => by cases h) (by (conv => lhs; whnf) <;> rfl) fun b16 hb16 => ?_
    refine W_store (i := 0) rfl rfl rfl (ev_t rfl (by (conv => lhs; whnf) <;> rfl)) (ev_t rfl (by (conv => lhs; whnf) <;> rfl)) rfl (by first | exact vcells_gr | exact vcells_rd | exact (SlOf.cells (by assumption)).1 | ((conv => lhs; whnf) <;> rfl)) T40 rfl rfl (by first | rfl | (simp only [List.all_cons, List.all_nil, vmS, vpS, cellOK_gr, cellOK_rd]; rfl) | (simp; done) | (simp [cellOK]; done)) (by simp only [wr]; exact rfl) (by simp only [zset]; exact rfl) ?_
    refine W_done ?_
    refine W_seq ?_
    refine W_drawI (cs := [3]) (gl := [0, 1, 2, 3, 4, 5, 6, 8, 7, 9]) [] (by simp only [zdrop, List.any_cons, List.any_nil, Nat.beq, Bool.or_false, cond_true, cond_false]; exact rfl) rfl rfl ?_
    refine DE_pureW (.cons_cons _ (.cons_cons _ (.cons_cons _ (.cons_cons _ (.cons_cons _ (.cons_cons _ (.cons_cons _ .slnil))))))) (want_none rfl) rfl (po_loadA (i := 0) (ev_t rfl (by (conv => lhs; whnf) <;> rfl)) K40 A40 T40 rfl rfl (by simp only [sub]; exact rfl)) ?_
    refine DE_pureWD (.cons_cons _ (.cons_cons _ (.cons_cons _ (.cons_cons _ (.cons_cons _ (.cons_cons _ (.cons_cons _ .slnil))))))) (want_none rfl) rfl (po_sliceD rfl U31 Z3 T3 rfl evp_nil rfl (by first | rfl | simp [vcells]) (by simp [listSet]; rfl)) ?_
    refine DE_pureW (.cons_cons _ (.cons_cons _ (.cons_cons _ (.cons_cons _ (.cons_cons _ (.cons_cons _ (.cons_cons _ .slnil))))))) (want_none rfl) rfl (po_move (ev_t rfl (by (conv => lhs; whnf) <;> rfl))) ?_
    refine DE_eff (.cons_cons _ (.cons_cons _ (.cons_cons _ (.cons_cons _ (.cons_cons _ (.cons_cons _ (.cons_cons _ .slnil))))))) (want_none rfl) rfl rfl (eff_appendF rfl rfl U31 U31 (by intro k h; cases h) T3 B3 rfl ZO3 (ev_t rfl (by (conv => lhs; whnf) <;> rfl)) (ev_t rfl (by (conv => lhs; whnf) <;> rfl)) (by first | exact SlOf.sl | exact SlOf.gr | exact SlOf.rd | exact SlOf.nil | assumption) (by simp [vcells, cellOK]) (by first | (simp [vcells]; done) | (simp only [List.mem_map]; rintro x ⟨p, -, rfl⟩; rfl)) (by simp at *; omega)) fun q106 hq106 => ?_
    generalize tkE q106 _ = tk106
    refine DE_callW (.cons_cons _ (.cons_cons _ (.cons_cons _ (.cons_cons _ (.cons_cons _ (.cons_cons _ (.cons_cons _ .slnil))))))) (want_none rfl) rfl rfl rfl rfl (evl_cons (ev_t rfl (by (conv => lhs; whnf) <;> rfl)) (evl_cons (ev_t rfl (by (conv => lhs; whnf) <;> rfl)) evl_nil)) (fun σ hz => c10a _ _ _ tv (allL i) _ SlOf.sl ok oo σ) ?_
    refine DE_pureW (.cons_cons _ (.cons_cons _ (.cons_cons _ (.cons_cons _ (.cons_cons _ (.cons_cons _ (.cons_cons _ .slnil))))))) (want_none rfl) rfl (po_move (ev_t rfl (by (conv => lhs; whnf) <;> rfl))) ?_
    refine DE_pureW (.cons_cons _ (.cons_cons _ (.cons_cons _ (.cons_cons _ (.cons_cons _ (.cons_cons _ (.cons_cons _ .slnil))))))) (want_none rfl) rfl (po_extract (ev_t rfl (by (conv => lhs; whnf) <;> rfl)) rfl) ?_
    refine DE_pureW (.cons_cons _ (.cons_cons _ (.cons_cons _ (.cons_cons _ (.cons_cons _ (.cons_cons _ (.cons_cons _ .slnil))))))) (want_none rfl) rfl (po_extract (ev_t rfl (by (conv => lhs; whnf) <;> rfl)) rfl) ?_
    refine DE_pureW (.cons_cons _ (.cons_cons _ (.cons_cons _ (.cons_cons _ (.cons_cons _ (.cons_cons _ (.cons_cons _ .slnil))))))) (want_none rfl) rfl (po_assign (ev_t rfl (by (conv => lhs; whnf) <;> rfl))) ?_
    refine DE_pureW (.cons_cons _ (.cons_cons _ (.cons_cons _ (.cons_cons _ (.cons_cons _ (.cons_cons _ (.cons_cons _ .slnil))))))) (want_none rfl) rfl (po_assign (ev_t rfl (by (conv => lhs; whnf) <;> rfl))) ?_
    refine DE_nil (.cons_cons _ (.cons_cons _ (.cons_cons _ (.cons_cons _ (.cons_cons _ (.cons_cons _ (.cons_cons _ .slnil))))))) ?_
    refine W_seq ?_
    refine W_drawI (cs := [3]) (gl := [0, 1, 2, 3, 4, 5, 6, 9, 7, 10, 8, 11]) [] (by simp only [zdrop, List.any_cons, List.any_nil, Nat.beq, Bool.or_false, cond_true, cond_false]; exact rfl) rfl rfl ?_
    refine DE_pureW (.cons_cons _ (.cons_cons _ (.cons_cons _ (.cons_cons _ (.cons_cons _ (.cons_cons _ (.cons_cons _ .slnil))))))) (want_none rfl) rfl (po_loadA (i := 0) (ev_t rfl (by (conv => lhs; whnf) <;> rfl)) K40 A40 T40 rfl rfl (by simp only [sub]; exact rfl)) ?_
    refine DE_pureWD (.cons_cons _ (.cons_cons _ (.cons_cons _ (.cons_cons _ (.cons_cons _ (.cons_cons _ (.cons_cons _ .slnil))))))) (want_none rfl) rfl (po_sliceD rfl U31 Z3 T3 rfl evp_nil rfl (by first | rfl | simp [vcells]) (by simp [listSet]; rfl)) ?_
    refine DE_pureW (.cons_cons _ (.cons_cons _ (.cons_cons _ (.cons_cons _ (.cons_cons _ (.cons_cons _ (.cons_cons _ .slnil))))))) (want_none rfl) rfl (po_move (ev_t rfl (by (conv => lhs; whnf) <;> rfl))) ?_
    refine DE_eff (.cons_cons _ (.cons_cons _ (.cons_cons _ (.cons_cons _ (.cons_cons _ (.cons_cons _ (.cons_cons _ .slnil))))))) (want_none rfl) rfl rfl (eff_appendF rfl rfl U31 U31 (by intro k h; cases h) T3 B3 rfl ZO3 (ev_t rfl (by (conv => lhs; whnf) <;> rfl)) (ev_t rfl (by (conv => lhs; whnf) <;> rfl)) (by first | exact SlOf.sl | exact SlOf.gr | exact SlOf.rd | exact SlOf.nil | assumption) (by simp [vcells, cellOK]) (by first | (simp [vcells]; done) | (simp only [List.mem_map]; rintro x ⟨p, -, rfl⟩; rfl)) (by simp at *; omega)) fun q114 hq114 => ?_
    generalize tkE q114 _ = tk114
    refine DE_callW (.cons_cons _ (.cons_cons _ (.cons_cons _ (.cons_cons _ (.cons_cons _ (.cons_cons _ (.cons_cons _ .slnil))))))) (want_none rfl) rfl rfl rfl rfl (evl_cons (ev_t rfl (by (conv => lhs; whnf) <;> rfl)) (evl_cons (ev_t rfl (by (conv => lhs; whnf) <;> rfl)) evl_nil)) (fun σ hz => c11 _ _ _ tv (allL i) _ SlOf.sl ok oo σ) ?_
    refine DE_pureW (.cons_cons _ (.cons_cons _ (.cons_cons _ (.cons_cons _ (.cons_cons _ (.cons_cons _ (.cons_cons _ .slnil))))))) (want_none rfl) rfl (po_move (ev_t rfl (by (conv => lhs; whnf) <;> rfl))) ?_
    refine DE_pureW (.cons_cons _ (.cons_cons _ (.cons_cons _ (.cons_cons _ (.cons_cons _ (.cons_cons _ (.cons_cons _ .slnil))))))) (want_none rfl) rfl (po_extract (ev_t rfl (by (conv => lhs; whnf) <;> rfl)) rfl) ?_
    refine DE_pureW (.cons_cons _ (.cons_cons _ (.cons_cons _ (.cons_cons _ (.cons_cons _ (.cons_cons _ (.cons_cons _ .slnil))))))) (want_none rfl) rfl (po_extract (ev_t rfl (by (conv => lhs; whnf) <;> rfl)) rfl) ?_
    refine DE_pureW (.cons_cons _ (.cons_cons _ (.cons_cons _ (.cons_cons _ (.cons_cons _ (.cons_cons _ (.cons_cons _ .slnil))))))) (want_none rfl) rfl (po_extract (ev_t rfl (by (conv => lhs; whnf) <;> rfl)) rfl) ?_
    refine DE_pureW (.cons_cons _ (.cons_cons _ (.cons_cons _ (.cons_cons _ (.cons_cons _ (.cons_cons _ (.cons_cons _ .slnil))))))) (want_none rfl) rfl (po_assign (ev_t rfl (by (conv => lhs; whnf) <;> rfl))) ?_
    refine DE_pureW (.cons_cons _ (.cons_cons _ (.cons_cons _ (.cons_cons _ (.cons_cons _ (.cons_cons _ (.cons_cons _ .slnil))))))) (want_none rfl) rfl (po_assign (ev_t rfl (by (conv => lhs; whnf) <;> rfl))) ?_
    refine DE_pureW (.cons_cons _ (.cons_cons _ (.cons_cons _ (.cons_cons _ (.cons_cons _ (.cons_cons _ (.cons_cons _ .slnil))))))) (want_none rfl) rfl (po_assign (ev_t rfl (by (conv => lhs; whnf) <;> rfl))) ?_
    refine DE_nil (.cons_cons _ (.cons_cons _ (.cons_cons _ (.cons_cons _ (.cons_cons _ (.cons_cons _ (.cons_cons _ .slnil))))))) ?_
    refine W_seq ?_
    refine W_drawI (cs := [3]) (gl := [0, 1, 2, 3, 4, 5, 6, 8, 7, 9]) [] (by simp only [zdrop, List.any_cons, List.any_nil, Nat.beq, Bool.or_false, cond_true, cond_false]; exact rfl) rfl rfl ?_
    refine DE_pureW (.cons_cons _ (.cons_cons _ (.cons_cons _ (.cons_cons _ (.cons_cons _ (.cons_cons _ (.cons_cons _ .slnil))))))) (want_none rfl) rfl (po_loadA (i := 0) (ev_t rfl (by (conv => lhs; whnf) <;> rfl)) K40 A40 T40 rfl rfl (by simp only [sub]; exact rfl)) ?_
    refine DE_pureWD (.cons_cons _ (.cons_cons _ (.cons_cons _ (.cons_cons _ (.cons_cons _ (.cons_cons _ (.cons_cons _ .slnil))))))) (want_none rfl) rfl (po_sliceD rfl U31 Z3 T3 rfl evp_nil rfl (by first | rfl | simp [vcells]) (by simp [listSet]; rfl)) ?_
    refine DE_pureW (.cons_cons _ (.cons_cons _ (.cons_cons _ (.cons_cons _ (.cons_cons _ (.cons_cons _ (.cons_cons _ .slnil))))))) (want_none rfl) rfl (po_move (ev_t rfl (by (conv => lhs; whnf) <;> rfl))) ?_
    refine DE_eff (.cons_cons _ (.cons_cons _ (.cons_cons _ (.cons_cons _ (.cons_cons _ (.cons_cons _ (.cons_cons _ .slnil))))))) (want_none rfl) rfl rfl (eff_appendF rfl rfl U31 U31 (by intro k h; cases h) T3 B3 rfl ZO3 (ev_t rfl (by (conv => lhs; whnf) <;> rfl)) (ev_t rfl (by (conv => lhs; whnf) <;> rfl)) (by first | exact SlOf.sl | exact SlOf.gr | exact SlOf.rd | exact SlOf.nil | assumption) (by simp [vcells, cellOK]) (by first | (simp [vcells]; done) | (simp only [List.mem_map]; rintro x ⟨p, -, rfl⟩; rfl)) (by simp at *; omega)) fun q123 hq123 => ?_
    generalize tkE q123 _ = tk123
    refine DE_callW (.cons_cons _ (.cons_cons _ (.cons_cons _ (.cons_cons _ (.cons_cons _ (.cons_cons _ (.cons_cons _ .slnil))))))) (want_none rfl) rfl rfl rfl rfl (evl_cons (ev_t rfl (by (conv => lhs; whnf) <;> rfl)) (evl_cons (ev_t rfl (by (conv => lhs; whnf) <;> rfl)) evl_nil)) (fun σ hz => c12 _ _ _ tv (allL i) _ SlOf.sl ok oo hsv σ) ?_
    refine DE_pureW (.cons_cons _ (.cons_cons _ (.cons_cons _ (.cons_cons _ (.cons_cons _ (.cons_cons _ (.cons_cons _ .slnil))))))) (want_none rfl) rfl (po_move (ev_t rfl (by (conv => lhs; whnf) <;> rfl))) ?_
    refine DE_pureW (.cons_cons _ (.cons_cons _ (.cons_cons _ (.cons_cons _ (.cons_cons _ (.cons_cons _ (.cons_cons _ .slnil))))))) (want_none rfl) rfl (po_extract (ev_t rfl (by (conv => lhs; whnf) <;> rfl)) rfl) ?_
    refine DE_pureW (.cons_cons _ (.cons_cons _ (.cons_cons _ (.cons_cons _ (.cons_cons _ (.cons_cons _ (.cons_cons _ .slnil))))))) (want_none rfl) rfl (po_extract (ev_t rfl (by (conv => lhs; whnf) <;> rfl)) rfl) ?_
    refine DE_pureW (.cons_cons _ (.cons_cons _ (.cons_cons _ (.cons_cons _ (.cons_cons _ (.cons_cons _ (.cons_cons _ .slnil))))))) (want_none rfl) rfl (po_assign (ev_t rfl (by (conv => lhs; whnf) <;> rfl))) ?_
    refine DE_pureW (.cons_cons _ (.cons_cons _ (.cons_cons _ (.cons_cons _ (.cons_cons _ (.cons_cons _ (.cons_cons _ .slnil))))))) (want_none rfl) rfl (po_assign (ev_t rfl (by (conv => lhs; whnf) <;> rfl))) ?_
    refine DE_nil (.cons_cons _ (.cons_cons _ (.cons_cons _ (.cons_cons _ (.cons_cons _ (.cons_cons _ (.cons_cons _ .slnil))))))) ?_
    refine W_seq ?_
    refine W_seq ?_
    refine W_region rfl ?_
    refine W_pure rfl rfl (po_move (ev_t rfl (by (conv => lhs; whnf) <;> rfl))) ?_
    refine W_pure rfl rfl (po_bin (ev_t rfl (by (conv => lhs; whnf) <;> rfl)) rfl (by (conv => lhs; whnf) <;> rfl)) ?_
    refine W_known 128 false (by (conv => lhs; whnf) <;> rfl) (by first | rfl | (congr 1; simp; done) | (congr 1; simp; omega) | (congr 1; simp only [decide_eq_true_eq, decide_eq_false_iff_not, List.length_map]; omega) | (congr 1; simp_all; done) | (congr 1; simp_all; omega)) ?_
    refine W_pure rfl rfl (po_move (ev_t rfl (by (conv => lhs; whnf) <;> rfl))) ?_
    refine W_yes rfl rfl rfl rfl rfl rfl (po_move (ev_t rfl (by (conv => lhs; whnf) <;> rfl))) ?_
    refine W_yes rfl rfl rfl rfl rfl rfl (po_bin (ev_t rfl (by (conv => lhs; whnf) <;> rfl)) rfl (by (conv => lhs; whnf) <;> rfl)) ?_
    refine W_known 131 false (by (conv => lhs; whnf) <;> rfl) (by (rw [hflt]; rfl)) ?_
    refine W_pure rfl rfl (po_pickF (ev_t rfl (by (conv => lhs; whnf) <;> rfl)) (ev_t rfl (by (conv => lhs; whnf) <;> rfl))) ?_
    refine W_pure rfl rfl (po_move (ev_t rfl (by (conv => lhs; whnf) <;> rfl))) ?_
    refine W_yes rfl rfl rfl rfl rfl rfl (po_move (ev_t rfl (by (conv => lhs; whnf) <;> rfl))) ?_
    refine W_yes rfl rfl rfl rfl rfl rfl (po_bin (ev_t rfl (by (conv => lhs; whnf) <;> rfl)) rfl (by (conv => lhs; whnf) <;> rfl)) ?_
    refine W_known 135 false (by (conv => lhs; whnf) <;> rfl) (by first | rfl | (congr 1; simp; done) | (congr 1; simp; omega) | (congr 1; simp only [decide_eq_true_eq, decide_eq_false_iff_not, List.length_map]; omega) | (congr 1; simp_all; done) | (congr 1; simp_all; omega)) ?_
    refine W_pure rfl rfl (po_pickF (ev_t rfl (by (conv => lhs; whnf) <;> rfl)) (ev_t rfl (by (conv => lhs; whnf) <;> rfl))) ?_
    refine W_pure rfl rfl (po_move (ev_t rfl (by (conv => lhs; whnf) <;> rfl))) ?_
    refine W_yes rfl rfl rfl rfl rfl rfl (po_move (ev_t rfl (by (conv => lhs; whnf) <;> rfl))) ?_
    refine W_yes rfl rfl rfl rfl rfl rfl (po_bin (ev_t rfl (by (conv => lhs; whnf) <;> rfl)) rfl (by (conv => lhs; whnf) <;> rfl)) ?_
    refine W_known 139 false (by (conv => lhs; whnf) <;> rfl) (by (have := lateF_nn (tP b (2 + v0 % 9) (v1 % (2 + v0 % 9 + 1)) sk i (sumL sk i)) (allL i); congr 1; simp only [decide_eq_false_iff_not]; omega)) ?_
    refine W_pure rfl rfl (po_pickF (ev_t rfl (by (conv => lhs; whnf) <;> rfl)) (ev_t rfl (by (conv => lhs; whnf) <;> rfl))) ?_
    refine W_done ?_
    refine W_else (ev_t rfl (by (conv => lhs; whnf) <;> rfl)) ?_
    refine W_skip ?_
    refine W_seq ?_
    refine W_seq ?_
    refine W_region rfl ?_
    refine W_pure rfl rfl (po_assign rfl) ?_
    refine W_done ?_
    refine W_block ?_
    refine W_loopI (S := Nat) (fun q => [(24, int q)]) [] (fun q => []) (fun q => q ≤ 8) (fun q => 8 - q) (0) (AE 3 (by (conv => lhs; whnf) <;> rfl) (AE 6 (by (conv => lhs; whnf) <;> rfl) (AE 8 (by (conv => lhs; whnf) <;> rfl) (AE 9 (by (conv => lhs; whnf) <;> rfl) (AE 10 (by (conv => lhs; whnf) <;> rfl) (AE 11 (by (conv => lhs; whnf) <;> rfl) (AE 17 (by (conv => lhs; whnf) <;> rfl) AE_nil))))))) (AE 24 (Eq.trans (by (conv => lhs; whnf) <;> rfl) (by first | rfl | (simp; done) | (simp; omega))) AE_nil) rfl (by omega) ?_
    rintro q j1 hI1 ih1
    refine W_eqZ (by simp only [zsets, zset]; exact rfl) ?_
    refine W_seq ?_
    refine W_seq ?_
    refine W_region rfl ?_
    refine W_pure rfl rfl (po_move (ev_t rfl (by (conv => lhs; whnf) <;> rfl))) ?_
    refine W_pure rfl rfl (po_move (ev_t rfl (by (conv => lhs; whnf) <;> rfl))) ?_
    refine W_pure rfl rfl (po_lenS rfl U31 (ev_t rfl (by (conv => lhs; whnf) <;> rfl)) (by first | exact SlOf.sl | exact SlOf.gr | exact SlOf.rd | exact SlOf.nil | assumption)) ?_
    refine W_pure rfl rfl (po_bin (ev_t rfl (by (conv => lhs; whnf) <;> rfl)) (ev_t rfl (by (conv => lhs; whnf) <;> rfl)) (by (conv => lhs; whnf) <;> rfl)) ?_
    refine W_done ?_
    refine W_if (ev_t rfl (by (conv => lhs; whnf) <;> rfl)) (fun g2 => ?_) (fun g2 => ?_)
    · (try simp only [decide_eq_true_eq, decide_eq_false_iff_not, beq_iff_eq, beq_eq_false_iff_ne, bne_iff_ne, ne_eq, bne_eq_false_iff_eq, Bool.not_eq_true', Bool.not_eq_false', Bool.not_eq_true, Bool.not_eq_false, Bool.not_false, Bool.not_true, not_lt, not_le, Int.not_lt, Int.not_le, Decidable.not_not] at g2); (try simp at g2)
      obtain ⟨x, hx⟩ : ∃ x, (loadsF (tP b (2 + v0 % 9) (v1 % (2 + v0 % 9 + 1)) sk i (sumL sk i)) (allL i))[q]? = some x := ⟨_, List.getElem?_eq_getElem (by omega)⟩
      have hlx := loadsP hP hx
      have hll := loads_len (t := tP b (2 + v0 % 9) (v1 % (2 + v0 % 9 + 1)) sk i (sumL sk i)) (order := allL i)
      have hal := allL_len i
      have hql := (List.getElem?_eq_some_iff.1 hx).1
      refine W_skip ?_
      refine W_seq ?_
      refine W_block ?_
      refine W_seq ?_
      refine W_region rfl ?_
      refine W_pure rfl rfl (po_move (ev_t rfl (by (conv => lhs; whnf) <;> rfl))) ?_
      refine W_pure rfl rfl (po_move (ev_t rfl (by (conv => lhs; whnf) <;> rfl))) ?_
      refine W_pure rfl rfl (po_indexAddrS U31 T3 (ev_t rfl (by (conv => lhs; whnf) <;> rfl)) (by first | exact SlOf.sl | exact SlOf.gr | exact SlOf.rd | exact SlOf.nil | assumption) (ev_t rfl (by (conv => lhs; whnf) <;> rfl)) (by first | omega | (simp only [List.length_map, List.length_append, List.length_cons, List.length_nil] at *; omega)) (show _ = some (int x) by simp [hx]) (by first | exact vcells_gr | exact vcells_rd | exact (SlOf.cells (by assumption)).1 | ((conv => lhs; whnf) <;> rfl)) rfl) ?_
      refine W_pure rfl rfl (po_loadR (ev_t rfl (by (conv => lhs; whnf) <;> rfl)) K3 A3) ?_
      refine W_pure rfl rfl (po_move (ev_t rfl (by (conv => lhs; whnf) <;> rfl))) ?_
      refine W_pure rfl rfl (po_bin (ev_t rfl (by (conv => lhs; whnf) <;> rfl)) (ev_t rfl (by (conv => lhs; whnf) <;> rfl)) (by (conv => lhs; whnf) <;> rfl)) ?_
      refine W_known 152 false (by (conv => lhs; whnf) <;> rfl) (by first | rfl | (congr 1; simp; done) | (congr 1; simp; omega) | (congr 1; simp only [decide_eq_true_eq, decide_eq_false_iff_not, List.length_map]; omega) | (congr 1; simp_all; done) | (congr 1; simp_all; omega)) ?_
      refine W_pure rfl rfl (po_move (ev_t rfl (by (conv => lhs; whnf) <;> rfl))) ?_
      refine W_yes rfl rfl rfl rfl rfl rfl (po_move (ev_t rfl (by (conv => lhs; whnf) <;> rfl))) ?_
      refine W_yes rfl rfl rfl rfl rfl rfl (po_bin (ev_t rfl (by (conv => lhs; whnf) <;> rfl)) rfl (by (conv => lhs; whnf) <;> rfl)) ?_
      refine W_yes rfl rfl rfl rfl rfl rfl (po_move (ev_t rfl (by (conv => lhs; whnf) <;> rfl))) ?_
      refine W_split (t := 156) (by (conv => lhs; whnf) <;> rfl) (fun g4 => ?_) (fun g4 => ?_)
      · (try simp only [decide_eq_true_eq, decide_eq_false_iff_not, beq_iff_eq, beq_eq_false_iff_ne, bne_iff_ne, ne_eq, bne_eq_false_iff_eq, Bool.not_eq_true', Bool.not_eq_false', Bool.not_eq_true, Bool.not_eq_false, Bool.not_false, Bool.not_true, not_lt, not_le, Int.not_lt, Int.not_le, Decidable.not_not] at g4); (try simp at g4)
        refine W_yes rfl rfl rfl rfl rfl rfl (po_move (ev_t rfl (by (conv => lhs; whnf) <;> rfl))) ?_
        refine W_yes rfl rfl rfl rfl rfl rfl (po_move (ev_t rfl (by (conv => lhs; whnf) <;> rfl))) ?_
        refine W_yes rfl rfl rfl rfl rfl rfl (po_indexAddrS U31 T3 (ev_t rfl (by (conv => lhs; whnf) <;> rfl)) (by first | exact SlOf.sl | exact SlOf.gr | exact SlOf.rd | exact SlOf.nil | assumption) (ev_t rfl (by (conv => lhs; whnf) <;> rfl)) (by first | omega | (simp only [List.length_map, List.length_append, List.length_cons, List.length_nil] at *; omega)) (show _ = some (int x) by simp [hx]) (by first | exact vcells_gr | exact vcells_rd | exact (SlOf.cells (by assumption)).1 | ((conv => lhs; whnf) <;> rfl)) rfl) ?_
        refine W_yes rfl rfl rfl rfl rfl rfl (po_loadR (ev_t rfl (by (conv => lhs; whnf) <;> rfl)) K3 A3) ?_
        refine W_yes rfl rfl rfl rfl rfl rfl (po_move (ev_t rfl (by (conv => lhs; whnf) <;> rfl))) ?_
        refine W_yes rfl rfl rfl rfl rfl rfl (po_bin (ev_t rfl (by (conv => lhs; whnf) <;> rfl)) (ev_t rfl (by (conv => lhs; whnf) <;> rfl)) (by (conv => lhs; whnf) <;> rfl)) ?_
        refine W_known 162 false (by (conv => lhs; whnf) <;> rfl) (by (have := hlx.2 (by omega); congr 1; simp; omega)) ?_
        refine W_yes rfl rfl rfl rfl rfl rfl (po_pickT (ev_t rfl (by (conv => lhs; whnf) <;> rfl)) (ev_t rfl (by (conv => lhs; whnf) <;> rfl))) ?_
        refine W_pure rfl rfl (po_pickF (ev_t rfl (by (conv => lhs; whnf) <;> rfl)) (ev_t rfl (by (conv => lhs; whnf) <;> rfl))) ?_
        refine W_done ?_
        refine W_else (ev_t rfl (by (conv => lhs; whnf) <;> rfl)) ?_
        refine W_skip ?_
        refine W_inB ?_
        refine W_region rfl ?_
        refine W_pure rfl rfl (po_move (ev_t rfl (by (conv => lhs; whnf) <;> rfl))) ?_
        refine W_pure rfl rfl (po_add (ev_t rfl (by (conv => lhs; whnf) <;> rfl)) rfl (by first | omega | (simp only [List.length_map, List.length_append, List.length_cons, List.length_nil] at *; omega))) ?_
        refine W_pure rfl rfl (po_assign (ev_t rfl (by (conv => lhs; whnf) <;> rfl))) ?_
        refine W_done ?_
        exact ih1 (q + 1) _ _ (by omega) (by omega) (AE 24 (Eq.trans (by (conv => lhs; whnf) <;> rfl) (by first | rfl | (simp; done) | (simp; omega))) AE_nil) (AE 3 (by (conv => lhs; whnf) <;> rfl) (AE 6 (by (conv => lhs; whnf) <;> rfl) (AE 8 (by (conv => lhs; whnf) <;> rfl) (AE 9 (by (conv => lhs; whnf) <;> rfl) (AE 10 (by (conv => lhs; whnf) <;> rfl) (AE 11 (by (conv => lhs; whnf) <;> rfl) (AE 17 (by (conv => lhs; whnf) <;> rfl) AE_nil))))))) rfl
      · (try simp only [decide_eq_true_eq, decide_eq_false_iff_not, beq_iff_eq, beq_eq_false_iff_ne, bne_iff_ne, ne_eq, bne_eq_false_iff_eq, Bool.not_eq_true', Bool.not_eq_false', Bool.not_eq_true, Bool.not_eq_false, Bool.not_false, Bool.not_true, not_lt, not_le, Int.not_lt, Int.not_le, Decidable.not_not] at g4); (try simp at g4)
        refine W_no rfl rfl rfl rfl rfl rfl ?_
        refine W_no rfl rfl rfl rfl rfl rfl ?_
        refine W_no rfl rfl rfl rfl rfl rfl ?_
        refine W_no rfl rfl rfl rfl rfl rfl ?_
        refine W_no rfl rfl rfl rfl rfl rfl ?_
        refine W_no rfl rfl rfl rfl rfl rfl ?_
        refine W_yes rfl rfl rfl rfl rfl rfl (po_pickF (ev_t rfl (by (conv => lhs; whnf) <;> rfl)) rfl) ?_
        refine W_pure rfl rfl (po_pickF (ev_t rfl (by (conv => lhs; whnf) <;> rfl)) (ev_t rfl (by (conv => lhs; whnf) <;> rfl))) ?_
        refine W_done ?_
        refine W_else (ev_t rfl (by (conv => lhs; whnf) <;> rfl)) ?_
        refine W_skip ?_
        refine W_inB ?_
        refine W_region rfl ?_
        refine W_pure rfl rfl (po_move (ev_t rfl (by (conv => lhs; whnf) <;> rfl))) ?_
        refine W_pure rfl rfl (po_add (ev_t rfl (by (conv => lhs; whnf) <;> rfl)) rfl (by first | omega | (simp only [List.length_map, List.length_append, List.length_cons, List.length_nil] at *; omega))) ?_
        refine W_pure rfl rfl (po_assign (ev_t rfl (by (conv => lhs; whnf) <;> rfl))) ?_
        refine W_done ?_
        exact ih1 (q + 1) _ _ (by omega) (by omega) (AE 24 (Eq.trans (by (conv => lhs; whnf) <;> rfl) (by first | rfl | (simp; done) | (simp; omega))) AE_nil) (AE 3 (by (conv => lhs; whnf) <;> rfl) (AE 6 (by (conv => lhs; whnf) <;> rfl) (AE 8 (by (conv => lhs; whnf) <;> rfl) (AE 9 (by (conv => lhs; whnf) <;> rfl) (AE 10 (by (conv => lhs; whnf) <;> rfl) (AE 11 (by (conv => lhs; whnf) <;> rfl) (AE 17 (by (conv => lhs; whnf) <;> rfl) AE_nil))))))) rfl
    · (try simp only [decide_eq_true_eq, decide_eq_false_iff_not, beq_iff_eq, beq_eq_false_iff_ne, bne_iff_ne, ne_eq, bne_eq_false_iff_eq, Bool.not_eq_true', Bool.not_eq_false', Bool.not_eq_true, Bool.not_eq_false, Bool.not_false, Bool.not_true, not_lt, not_le, Int.not_lt, Int.not_le, Decidable.not_not] at g2); (try simp at g2)
      refine W_exit rfl ?_
      refine W_seq ?_
      refine W_seq ?_
      refine W_region rfl ?_
      refine W_pure rfl rfl (po_move (ev_t rfl (by (conv => lhs; whnf) <;> rfl))) ?_
      refine W_pure rfl rfl (po_bin (ev_t rfl (by (conv => lhs; whnf) <;> rfl)) rfl (by (conv => lhs; whnf) <;> rfl)) ?_
      refine W_done ?_
      refine W_if (ev_t rfl (by (conv => lhs; whnf) <;> rfl)) (fun g4 => ?_) (fun g4 => ?_)
      · (try simp only [decide_eq_true_eq, decide_eq_false_iff_not, beq_iff_eq, beq_eq_false_iff_ne, bne_iff_ne, ne_eq, bne_eq_false_iff_eq, Bool.not_eq_true', Bool.not_eq_false', Bool.not_eq_true, Bool.not_eq_false, Bool.not_false, Bool.not_true, not_lt, not_le, Int.not_lt, Int.not_le, Decidable.not_not] at g4); (try simp at g4)
        have ok2 := okP hb hP hE0 (holds := sumL sk i - 1) (by omega)
        have oo2 : OkOrder (tP b (2 + v0 % 9) (v1 % (2 + v0 % 9 + 1)) sk i (sumL sk i - 1)) (allL i) := ooP hE0
        have tv2 : TaskV (tP b (2 + v0 % 9) (v1 % (2 + v0 % 9 + 1)) sk i (sumL sk i - 1)) _ _ := oak_tv
        have hf2 := faultP2 (b := b) (of := 2 + v0 % 9) (high := v1 % (2 + v0 % 9 + 1)) (sk := sk) (n := i)
        have hal := allL_len i
        refine W_seq ?_
        refine W_region rfl ?_
        refine W_pure rfl rfl (po_loadA (i := 6) (ev_t rfl (by (conv => lhs; whnf) <;> rfl)) K27 A27 T27 rfl cellsR_ble cellsR_sub) ?_
        refine W_pure rfl rfl (po_move (ev_t rfl (by (conv => lhs; whnf) <;> rfl))) ?_
        refine W_pure rfl rfl (po_move (ev_t rfl (by (conv => lhs; whnf) <;> rfl))) ?_
        refine W_pure rfl rfl (po_move (ev_t rfl (by (conv => lhs; whnf) <;> rfl))) ?_
        refine W_pure rfl rfl (po_sub (ev_t rfl (by (conv => lhs; whnf) <;> rfl)) rfl (by first | omega | (simp only [List.length_map, List.length_append, List.length_cons, List.length_nil] at *; omega))) ?_
        refine W_call rfl rfl rfl rfl rfl (evl_cons (ev_t rfl (by (conv => lhs; whnf) <;> rfl)) (evl_cons (ev_t rfl (by (conv => lhs; whnf) <;> rfl)) (evl_cons (ev_t rfl (by (conv => lhs; whnf) <;> rfl)) (evl_cons (ev_t rfl (by (conv => lhs; whnf) <;> rfl)) evl_nil)))) (fun σ hz => c9 b hb _ _ (by rw [brL_len]; exact hE0) (by rw [brL_len, feL_len]) _ _ SlOf.gr SlOf.gr _ σ) ?_
        refine W_pureD rfl rfl (po_sliceD rfl U31 Z3 T3 rfl evp_nil rfl (by first | rfl | simp [vcells]) (by simp [listSet]; rfl)) ?_
        refine W_ghost (d := 174) 3 false rfl (by first | rfl | simp) fun r174 hr174 => ?_
        refine W_pure rfl rfl (po_move (ev_t rfl (by (conv => lhs; whnf) <;> rfl))) ?_
        refine W_eff rfl rfl (eff_append (i := 0) rfl rfl U31 U31 (by intro k h; cases h) T3 B3 rfl ZO3 (ev_t rfl (by (conv => lhs; whnf) <;> rfl)) (ev_t rfl (by (conv => lhs; whnf) <;> rfl)) (by first | exact SlOf.sl | exact SlOf.gr | exact SlOf.rd | exact SlOf.nil | assumption) rfl (by simp [brL_len, feL_len, allL_len]) (by simp [vcells, cellOK]) (by first | (simp [vcells]; done) | (simp only [List.mem_map]; rintro x ⟨p, -, rfl⟩; rfl)) (by simp at *; omega) (by simp only [zset]; exact rfl)) fun _ h_ => ?_
        refine W_call rfl rfl rfl rfl rfl (evl_cons (ev_t rfl (by (conv => lhs; whnf) <;> rfl)) (evl_cons (ev_t rfl (by (conv => lhs; whnf) <;> rfl)) evl_nil)) (fun σ hz => c11 _ _ _ tv2 (allL i) _ SlOf.gr ok2 oo2 σ) ?_
        refine W_pure rfl rfl (po_move (ev_t rfl (by (conv => lhs; whnf) <;> rfl))) ?_
        refine W_pure rfl rfl (po_extract (ev_t rfl (by (conv => lhs; whnf) <;> rfl)) rfl) ?_
        refine W_pure rfl rfl (po_extract (ev_t rfl (by (conv => lhs; whnf) <;> rfl)) rfl) ?_
        refine W_pure rfl rfl (po_extract (ev_t rfl (by (conv => lhs; whnf) <;> rfl)) rfl) ?_
        refine W_pure rfl rfl (po_assign (ev_t rfl (by (conv => lhs; whnf) <;> rfl))) ?_
        refine W_pure rfl rfl (po_assign (ev_t rfl (by (conv => lhs; whnf) <;> rfl))) ?_
        refine W_pure rfl rfl (po_assign (ev_t rfl (by (conv => lhs; whnf) <;> rfl))) ?_
        refine W_done ?_
        refine W_seq ?_
        refine W_region rfl ?_
        refine W_pure rfl rfl (po_move (ev_t rfl (by (conv => lhs; whnf) <;> rfl))) ?_
        refine W_pure rfl rfl (po_bin (ev_t rfl (by (conv => lhs; whnf) <;> rfl)) rfl (by (conv => lhs; whnf) <;> rfl)) ?_
        refine W_known 182 false (by (conv => lhs; whnf) <;> rfl) (by (rw [hf2]; rfl)) ?_
        refine W_pure rfl rfl (po_move (ev_t rfl (by (conv => lhs; whnf) <;> rfl))) ?_
        refine W_yes rfl rfl rfl rfl rfl rfl (po_move (ev_t rfl (by (conv => lhs; whnf) <;> rfl))) ?_
        refine W_yes rfl rfl rfl rfl rfl rfl (po_bin (ev_t rfl (by (conv => lhs; whnf) <;> rfl)) rfl (by (conv => lhs; whnf) <;> rfl)) ?_
        refine W_known 185 false (by (conv => lhs; whnf) <;> rfl) (by (rw [hf2]; rfl)) ?_
        refine W_pure rfl rfl (po_pickF (ev_t rfl (by (conv => lhs; whnf) <;> rfl)) (ev_t rfl (by (conv => lhs; whnf) <;> rfl))) ?_
        refine W_pure rfl rfl (po_move (ev_t rfl (by (conv => lhs; whnf) <;> rfl))) ?_
        refine W_yes rfl rfl rfl rfl rfl rfl (po_move (ev_t rfl (by (conv => lhs; whnf) <;> rfl))) ?_
        refine W_yes rfl rfl rfl rfl rfl rfl (po_un (ev_t rfl (by (conv => lhs; whnf) <;> rfl)) (by (conv => lhs; whnf) <;> rfl)) ?_
        refine W_known 189 false (by (conv => lhs; whnf) <;> rfl) (by (rw [hf2]; rfl)) ?_
        refine W_pure rfl rfl (po_pickF (ev_t rfl (by (conv => lhs; whnf) <;> rfl)) (ev_t rfl (by (conv => lhs; whnf) <;> rfl))) ?_
        refine W_done ?_
        refine W_else (ev_t rfl (by (conv => lhs; whnf) <;> rfl)) ?_
        refine W_skip ?_
        refine W_seq ?_
        refine W_region rfl ?_
        refine W_call rfl rfl rfl rfl rfl evl_nil (fun σ hz => c13 σ) ?_
        refine W_pure rfl rfl (po_assign (ev_t rfl (by (conv => lhs; whnf) <;> rfl))) ?_
        refine W_done ?_
        exact W_ret fun fr σ' hf hz => ends_of (.inr rfl) hf hz rfl (show resOf _ _ _ _ _ from ⟨_, _, rfl, ev_t rfl (by (conv => lhs; whnf) <;> rfl), rfl⟩) rfl fun τ hz2 => by clear hf hz; simp [packV, Ev.freeze]
      · (try simp only [decide_eq_true_eq, decide_eq_false_iff_not, beq_iff_eq, beq_eq_false_iff_ne, bne_iff_ne, ne_eq, bne_eq_false_iff_eq, Bool.not_eq_true', Bool.not_eq_false', Bool.not_eq_true, Bool.not_eq_false, Bool.not_false, Bool.not_true, not_lt, not_le, Int.not_lt, Int.not_le, Decidable.not_not] at g4); (try simp at g4)
        refine W_skip ?_
        refine W_seq ?_
        refine W_region rfl ?_
        refine W_call rfl rfl rfl rfl rfl evl_nil (fun σ hz => c13 σ) ?_
        refine W_pure rfl rfl (po_assign (ev_t rfl (by (conv => lhs; whnf) <;> rfl))) ?_
        refine W_done ?_
        exact W_ret fun fr σ' hf hz => ends_of (.inr rfl) hf hz rfl (show resOf _ _ _ _ _ from ⟨_, _, rfl, ev_t rfl (by (conv => lhs; whnf) <;> rfl), rfl⟩) rfl fun τ hz2 => by clear hf hz; simp [packV, Ev.freeze]

end Go.Proofs

set_option linter.unusedVariables false
set_option linter.unusedSimpArgs false
set_option linter.unnecessarySimpa false
namespace Go.Ev
open Go Go.ChangeShapes Go.WideShapes Go.ChangeAt Go.RowKit

/-- At first: all that is there is only read. -/
def mm0 (w : World) : Mm := { rom := fun g o => w.cell? ⟨g, o, none⟩, mu := fun _ => none, tk := fun _ _ => none, res := fun _ => False, ld := fun _ => none }
theorem sim0 (P : Program) (w : World) : Sim P (mm0 w) w.heap.size [] w where
  rom := fun g o v h => h
  obj := fun b o h => by simp at h
  mulen := fun b g h => by cases h
  tklen := fun t n p h => by cases h
  uniq := fun b o b' o' g h => by simp at h
  above := fun b o g h => by simp at h
  res := fun r h => h.elim
  big := Nat.le_refl _

section
variable {P : Program} {W : World} {base : Nat}

/-- Bytes in a row, by value. -/
theorem open_bytesAgg {t u n : Nat} (hagg : isAggT P t = true) (hts : P.cellTypes P.depth t = some (List.replicate n u)) (hu : P.underlying u = some (.int .u8)) (hc : P.cellsOf t = n) (hn : 0 < n) {v : Value} (hv : Value.okWide P W .any base t v) :
    ∃ b : Nat → Int, (∀ i, 0 ≤ b i ∧ b i < 256) ∧ VR (mm0 W) v (.agg ((List.range n).map fun i => .int .u8 (b i))) := by
  obtain ⟨cs, rfl, hsz, ts, hts', ⟨m, hm⟩, hall⟩ : ∃ cs, v = .agg cs ∧ cs.size = P.cellsOf t ∧ Row.okWide P W .any base t cs := by
    unfold isAggT at hagg
    unfold Value.okWide at hv
    split at hagg
    · rename_i h; rw [h] at hv; exact hv
    · rename_i h; rw [h] at hv; exact hv
    · cases hagg
  rw [hts] at hts'
  cases hts'
  have hall' : ∀ i v, cs[i]? = some v → ∃ k, v = Value.int .u8 k ∧ 0 ≤ k ∧ k < 256 := fun i v hi => by
    obtain ⟨u', h1, h2⟩ := hall i v hi
    have hlt : i < n := by have := (Array.getElem?_eq_some_iff.1 hi).1; omega
    simp only [List.length_replicate] at h1
    rw [Nat.mod_eq_of_lt hlt, List.getElem?_replicate, if_pos hlt] at h1
    cases h1
    unfold Cell.okWide at h2
    rw [hu] at h2
    unfold Cell.ok at h2
    rw [hu] at h2
    cases v <;> simp at h2
    obtain ⟨rfl, h3⟩ := h2
    refine ⟨_, rfl, ?_⟩
    simp only [IntKind.has, IntKind.min, IntKind.max, IntKind.signed, IntKind.bits] at h3
    simp at h3
    omega
  let b : Nat → Int := fun i => match cs[i]? with | some (.int _ k) => k | _ => 0
  have hb : ∀ i v, cs[i]? = some v → v = Value.int .u8 (b i) := fun i v hi => by
    obtain ⟨k, rfl, -⟩ := hall' i v hi
    simp [b, hi]
  refine ⟨b, fun i => ?_, .agg _ _ (by simp; omega) fun i x y hx hy => ?_⟩
  · cases hi : cs[i]? with
    | none => simp [b, hi]
    | some v =>
      obtain ⟨k, rfl, h1, h2⟩ := hall' i v hi
      simp only [b, hi]
      omega
  · have hx' : cs[i]? = some x := by rw [← Array.getElem?_toList]; exact hx
    have hlt : i < n := by have := (Array.getElem?_eq_some_iff.1 hx').1; omega
    rw [List.getElem?_map, List.getElem?_range hlt] at hy
    simp at hy
    subst hy
    rw [hb i x hx']
    exact .int _ _

/-- A slice of bytes. -/
theorem open_bytesSl {H : Type} {enc : TypeId × Value → H} {t u : Nat} (ht : P.underlying t = some (.slice u)) (hu : P.underlying u = some (.int .u8)) (hc : P.cellsOf u = 1) {v : Value} {d : DataW H} {ps : List MemPlace} (hv : Value.okWide P W .any base t v) (hd : DataW.Trod enc P W 0 (fun _ => true) true t v d ps) :
    ∃ (sk : List Int) (vs : V), (∀ x ∈ sk, 0 ≤ x ∧ x < 256) ∧ SlOf vs (sk.map fun x => V.int .u8 x) ∧ VR (mm0 W) v vs := by
  have hcell : Cell.ok P W .any base t v := by
    unfold Value.okWide at hv
    rw [ht] at hv
    unfold Cell.okWide at hv
    rw [ht] at hv
    exact hv
  obtain ⟨fuel, hf⟩ := hd
  rcases open_ints ht hu hc hf with ⟨h1, -⟩ | ⟨a, len, cap, zs, h1, -, hl, hm, hz, -, hcells, hw⟩
  · have hv' : v = .slice none 0 0 := by
      cases v with
      | agg cs => unfold Cell.ok at hcell; rw [ht] at hcell; exact hcell.elim
      | _ => simpa [Value.cells] using h1
    subst hv'
    exact ⟨[], .nilsl none, by simp, SlOf.nil, .nilsl none⟩
  · have hv' : v = .slice (some a) len cap := by
      cases v with
      | agg cs => unfold Cell.ok at hcell; rw [ht] at hcell; exact hcell.elim
      | _ => simpa [Value.cells] using h1
    subst hv'
    have hspot : a.spot = none := by
      unfold Cell.ok at hcell
      rw [ht] at hcell
      exact hcell.2.2.2.1
    simp only [if_true] at hz
    obtain ⟨g, o, sp⟩ := a
    simp only at hspot
    subst hspot
    have hlen : (zs.take len).length = len := by simp [hz]; omega
    refine ⟨zs.take len, .sl .sealed ((zs.take len).map fun x => .int .u8 x), fun x hx => ?_, SlOf.sl, ?_⟩
    · have h2 := hw x (List.mem_of_mem_take hx)
      simp [Lit.wf, IntKind.min, IntKind.max, IntKind.signed, IntKind.bits] at h2
      omega
    · have h0 : ((zs.take len).map fun x => V.int .u8 x).length = len := by rw [List.length_map]; exact hlen
      have key := VR.sl (G := mm0 W) g o cap 1 .sealed ((zs.take len).map fun x => V.int .u8 x) (fun i _ => .int .u8 (zs.getD i 0)) (fun x hx => by
          obtain ⟨y, -, rfl⟩ := List.mem_map.1 hx
          rfl) (fun i x j b hx hb => by
          rw [List.getElem?_map] at hx
          have hi : i < len := by
            rcases Nat.lt_or_ge i len with h | h
            · exact h
            · rw [List.getElem?_eq_none (by omega)] at hx; cases hx
          obtain ⟨y, hy⟩ : ∃ y, (zs.take len)[i]? = some y := ⟨_, List.getElem?_eq_getElem (by omega)⟩
          rw [hy] at hx
          simp at hx
          subst hx
          have hj : j = 0 := by
            cases j with
            | zero => rfl
            | succ j => simp [vcells] at hb
          subst hj
          have := hcells i (by omega)
          show W.cell? ⟨g, o + i * 1 + 0, none⟩ = _
          rw [show o + i * 1 + 0 = o + i by omega]
          rw [← this]
          unfold Addr.add
          split
          · rename_i h; subst h; rfl
          · rfl) (fun i x j b hx hb => by
          rw [List.getElem?_map] at hx
          have hi : i < len := by
            rcases Nat.lt_or_ge i len with h | h
            · exact h
            · rw [List.getElem?_eq_none (by omega)] at hx; cases hx
          have hy : (zs.take len)[i]? = some (zs.getD i 0) := by
            rw [List.getElem?_take, if_pos hi, List.getD_eq_getElem?_getD, List.getElem?_eq_getElem (by omega)]; rfl
          rw [hy] at hx
          simp at hx
          subst hx
          have hj : j = 0 := by
            cases j with
            | zero => rfl
            | succ j => simp [vcells] at hb
          subst hj
          simp [vcells] at hb
          subst hb
          exact .int _ _) (by omega) trivial
      rw [h0] at key
      exact key
end

section
variable {H : Type} {enc : TypeId × Value → H} {P : Program}
/-- The arguments read as they did. -/
theorem trodAll_stays (hl : laidOutB P = true) {W W' : World} (hb : Below W.heap.size W W') : ∀ {ts : List TypeId} {vs : List Value} {ds : List (DataW H)} {ps : List MemPlace}, (∀ t ∈ ts, P.readableRec t = true ∧ t < P.types.size) →
    DataW.TrodAll enc P W 0 (fun _ => true) true ts vs ds ps → (∀ x ∈ ps, x.block < W.heap.size) → ∀ sp : Nat → Bool, (∀ p ∈ ps, sp p.block = true) → DataW.TrodAll enc P W' 0 sp true ts vs ds ps
  | [], [], [], _, _, h, _, _, _ => h
  | _ :: _, _ :: _, _ :: _, _, ht, ⟨p, q, h1, h2, e⟩, hlt, sp, hs => by
    subst e
    exact ⟨p, q, WideElems.Trod_stays hl (ht _ (by simp)).1 (ht _ (by simp)).2 h1 (fun x hx => hb.same (hlt x (List.mem_append_left _ hx))) (fun x hx => hs x (List.mem_append_left _ hx)),
      trodAll_stays hl hb (fun t h => ht t (by simp [h])) h2 (fun x hx => hlt x (List.mem_append_right _ hx)) sp (fun x hx => hs x (List.mem_append_right _ hx)), rfl⟩

/-- A law's end: true, and all as it was. -/
theorem post_law {f : Func} {s : ChangeSpec} {apart fresh handsOn again : Bool} {W W' : World} {args : Array Value} {tb : TypeId} {ds gs : List (DataW H)} {before : List MemPlace}
    (hW : DataW.Whole enc P f.params.toList s.vars apart W args.toList ds gs before) (hvars : s.vars = []) (hfn : s.fn H (ds ++ gs) = { results := [.lit (.bool true)], args := ds }) (hrt : f.resultTypes = #[tb]) (htb : P.underlying tb = some .bool)
    (hl : laidOutB P = true) (ht : ∀ t ∈ f.params.toList, P.readableRec t = true ∧ t < P.types.size) (hb : Below W.heap.size W W') : s.post enc P f apart fresh handsOn again W args (.bool true) W' := by
  have hlt := hW.lt
  have hW0 := hW
  obtain ⟨pa, pv, hA, hV, hps, hz, hn⟩ := hW
  rw [hvars] at hV
  obtain ⟨rfl, rfl⟩ := trodVars_none hV
  rw [List.append_nil] at hps
  subst hps
  have hres : ∀ (b : Nat) (sp : Nat → Bool) (hd : Bool), DataW.TrodAll enc P W' b sp hd f.resultTypes.toList ((Value.bool true).resultList f.resultTypes.size) (s.fn H (ds ++ [])).results [] := fun b sp hd => by
    rw [hfn, hrt]
    exact trodAll_cons_mk (shut_bool htb _) trodAll_mk0
  have hargs : ∀ sp : Nat → Bool, (∀ p ∈ before, sp p.block = true) → DataW.TrodAll enc P W' 0 sp true f.params.toList args.toList (s.fn H (ds ++ [])).args before := fun sp hs => by
    rw [hfn]
    exact trodAll_stays hl hb ht hA hlt sp hs
  have hvr : ∀ sp : Nat → Bool, DataW.TrodVars enc P W' sp s.vars (s.fn H (ds ++ [])).vars [] := fun sp => by
    rw [hfn, hvars]; rfl
  have hold : ∀ p ∈ before, (fun b => decide (b < W.heap.size)) p.block = true := fun p hp => by simpa using hlt p hp
  refine ⟨ds, [], before, [], before, [], hW0, hres _ _ _, hargs _ hold, hvr _, World.keptBut_mono (fun p hp => ⟨hp, ?_⟩) (hb.frame (· ∈ before)), fun _ => ?_⟩
  · exact Or.inr (Or.inl hp)
  · refine ⟨?_, _, _, ([] ++ before) ++ [], ⟨[] ++ before, [], trodAll_append (hargs _ (fun _ _ => rfl)) (hres _ _ _), hvr _, rfl, ?_, ?_⟩, ?_⟩
    · rw [hrt]
      exact fun j t r h1 h2 => by
        cases j with
        | zero =>
          simp at h1
          subst h1
          simp [Value.resultList] at h2
          subst h2
          exact okWide_bool_mk htb _
        | succ j => simp at h1
    · intro b off hp
      have hp' : MemPlace.cell b off ∈ before := by simpa using hp
      rw [hb.frozen (hlt _ hp')]
      exact hz b off hp'
    · intro ha
      simpa using hn ha
    · intro p hp _
      simpa using hp
end
end Go.Ev

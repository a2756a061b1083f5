/- Part 2 of the proof: an evaluator of programs and its soundness. -/
import Derived.Test.YtcnbffganikmfaaEv0
import Derived.RangeFuncRecord
import Derived.Calls
set_option linter.unusedSimpArgs false
set_option linter.unusedVariables false
namespace Go.Ev
open Go.RowKit

section
variable {P : Program} {G G' : Mm} {base : Nat} {σ σ' : St} {w w' : World}

theorem frL_get {n d : Nat} : ∀ {cs cs' : List V}, freeze.frL P n σ d cs = some cs' → cs.length = cs'.length ∧ ∀ (i : Nat) b', cs'[i]? = some b' → ∃ b, cs[i]? = some b ∧ freeze P n σ d b = some b'
  | [], cs', h => by rw [freeze.frL] at h; cases h; exact ⟨rfl, fun i b hb => by simp at hb⟩
  | c :: cs, cs', h => by
    rw [freeze.frL] at h
    split at h
    · rename_i v vs h1 h2
      cases h
      obtain ⟨h3, h4⟩ := frL_get h2
      refine ⟨by simp [h3], fun i b hb => ?_⟩
      cases i with
      | zero => simp at hb; subst hb; exact ⟨c, by simp, h1⟩
      | succ i => simp at hb ⊢; exact h4 i b hb
    · cases h

theorem freeze_cells {n d : Nat} {x x' : V} (h : freeze P n σ d x = some x') : freeze.frL P n σ d (vcells x) = some (vcells x') := by
  have one : ∀ {y : V}, vcells x = [x] → vcells y = [y] → x' = y → freeze.frL P n σ d (vcells x) = some (vcells x') := by
    intro y h1 h2 h3
    subst h3
    rw [h1, h2, freeze.frL, freeze.frL, h]
  cases x with
  | agg cs =>
    rw [freeze] at h
    obtain ⟨u, hu, rfl⟩ := Option.map_eq_some_iff.1 h
    exact hu
  | tup cs => rw [freeze] at h; obtain ⟨u, hu, rfl⟩ := Option.map_eq_some_iff.1 h; exact one rfl rfl rfl
  | rptr cs => rw [freeze] at h; obtain ⟨u, hu, rfl⟩ := Option.map_eq_some_iff.1 h; exact one rfl rfl rfl
  | sl tk cs => rw [freeze] at h; obtain ⟨u, hu, rfl⟩ := Option.map_eq_some_iff.1 h; exact one rfl rfl rfl
  | iface t v => rw [freeze] at h; obtain ⟨u, hu, rfl⟩ := Option.map_eq_some_iff.1 h; exact one rfl rfl rfl
  | ptr b o => rw [freeze] at h; split at h <;> cases h; exact one rfl rfl rfl
  | map b => rw [freeze] at h; split at h <;> cases h; exact one rfl rfl rfl
  | yield b => rw [freeze] at h; split at h <;> cases h; exact one rfl rfl rfl
  | nilsl t => rw [freeze] at h; cases h; exact one rfl rfl rfl
  | func f a c =>
    rw [freeze] at h
    split at h
    · cases h; exact one rfl rfl rfl
    · cases h
  | msl e b o m c =>
    cases d with
    | zero => rw [freeze] at h; split at h <;> cases h; exact one rfl rfl rfl
    | succ d =>
      rw [freeze] at h
      split at h
      · cases h; exact one rfl rfl rfl
      · split at h
        · split at h
          · cases h
          · obtain ⟨u, hu, rfl⟩ := Option.map_eq_some_iff.1 h; exact one rfl rfl rfl
        · cases h
  | bool b => rw [freeze] at h; cases h; exact one rfl rfl rfl
  | int k n => rw [freeze] at h; cases h; exact one rfl rfl rfl
  | str s => rw [freeze] at h; cases h; exact one rfl rfl rfl
  | nilptr => rw [freeze] at h; cases h; exact one rfl rfl rfl
  | nilmap => rw [freeze] at h; cases h; exact one rfl rfl rfl
  | nilfunc => rw [freeze] at h; cases h; exact one rfl rfl rfl
  | nilif => rw [freeze] at h; cases h; exact one rfl rfl rfl
theorem freeze_sound (hs : Sim P G base σ w) {n : Nat} {R : Nat → Prop} : ∀ (d : Nat) {x : Value} {v v' : V}, VR G x v → freeze P n σ d v = some v' → VR (restr G n σ w R) x v' := by
  have hrom : ∀ g o u, G.rom g o = some u → (restr G n σ w R).rom g o = some u := fun g o u hu => by simp [restr, hu]
  intro d
  induction d with
  | zero =>
    intro x v v' h hf
    exact go hs hrom 0 (fun d' h => by omega) h hf
  | succ d ih =>
    intro x v v' h hf
    exact go hs hrom (d + 1) (fun d' hd {_ _ _} h1 hf1 => by
      obtain rfl : d' = d := by omega
      exact ih h1 hf1) h hf
where
  go {n : Nat} {R : Nat → Prop} (hs : Sim P G base σ w) (hrom : ∀ g o u, G.rom g o = some u → (restr G n σ w R).rom g o = some u) (d : Nat)
      (ih : ∀ d', d' + 1 = d → ∀ {x : Value} {v v' : V}, VR G x v → Ev.freeze P n σ d' v = some v' → VR (restr G n σ w R) x v') {x : Value} {v v' : V} (h : VR G x v) (hf : Ev.freeze P n σ d v = some v') :
      VR (restr G n σ w R) x v' := by
    have list : ∀ {as : List Value} {bs bs' : List V}, as.length = bs.length → (∀ (i : Nat) a b, as[i]? = some a → bs[i]? = some b → ∀ b', Ev.freeze P n σ d b = some b' → VR (restr G n σ w R) a b') →
        Ev.freeze.frL P n σ d bs = some bs' → LR (restr G n σ w R) as bs' := by
      intro as bs bs' hl hh hfl
      obtain ⟨h1, h2⟩ := frL_get hfl
      refine ⟨by omega, fun i a b ha hb => ?_⟩
      obtain ⟨b0, hb0, hf0⟩ := h2 i b hb
      exact hh i a b0 ha hb0 b hf0
    induction h generalizing v' with
    | bool b => rw [Ev.freeze] at hf; cases hf; exact .bool b
    | int k m => rw [Ev.freeze] at hf; cases hf; exact .int k m
    | str s => rw [Ev.freeze] at hf; cases hf; exact .str s
    | agg cs ds hl _ IH =>
      rw [Ev.freeze] at hf
      obtain ⟨u, hu, rfl⟩ := Option.map_eq_some_iff.1 hf
      have := list hl (fun i a b ha hb b' hb' => IH i a b ha hb hb') hu
      exact .agg _ _ this.len this.at_
    | tup cs ds hl _ IH =>
      rw [Ev.freeze] at hf
      obtain ⟨u, hu, rfl⟩ := Option.map_eq_some_iff.1 hf
      have := list hl (fun i a b ha hb b' hb' => IH i a b ha hb hb') hu
      exact .tup _ _ this.len this.at_
    | ptr g b o hm =>
      rw [Ev.freeze] at hf
      split at hf
      · rename_i hb; cases hf; exact .ptr g b o (by simp [restr, hb, hm])
      · cases hf
    | rptr g o cs f hr _ IH =>
      rw [Ev.freeze] at hf
      obtain ⟨u, hu, rfl⟩ := Option.map_eq_some_iff.1 hf
      obtain ⟨h1, h2⟩ := frL_get hu
      refine .rptr g o u f (fun j b hb => ?_) (fun j b hb => ?_)
      · obtain ⟨b0, hb0, _⟩ := h2 j b hb; exact hrom _ _ _ (hr j b0 hb0)
      · obtain ⟨b0, hb0, hf0⟩ := h2 j b hb; exact IH j b0 hb0 hf0
    | nilptr => rw [Ev.freeze] at hf; cases hf; exact .nilptr
    | sl g o cap k tk xs f hk hr _ hcap ht IH =>
      rw [Ev.freeze] at hf
      obtain ⟨u, hu, rfl⟩ := Option.map_eq_some_iff.1 hf
      obtain ⟨h1, h2⟩ := frL_get hu
      have cell : ∀ (i : Nat) x' (j : Nat) b', u[i]? = some x' → (vcells x')[j]? = some b' → ∃ x b, xs[i]? = some x ∧ (vcells x)[j]? = some b ∧ Ev.freeze P n σ d b = some b' := by
        intro i x' j b' hx hb
        obtain ⟨x, hx0, hfx⟩ := h2 i x' hx
        obtain ⟨_, h4⟩ := frL_get (freeze_cells hfx)
        obtain ⟨b, hb0, hfb⟩ := h4 j b' hb
        exact ⟨x, b, hx0, hb0, hfb⟩
      rw [h1] at hcap ht ⊢
      refine .sl g o cap k _ u f (fun x' hx => ?_) (fun i x' j b' hx hb => ?_) (fun i x' j b' hx hb => ?_) hcap ?_
      · obtain ⟨i, hi, rfl⟩ := List.getElem_of_mem hx
        obtain ⟨x, hx0, hfx⟩ := h2 i _ (List.getElem?_eq_getElem hi)
        rw [← (frL_get (freeze_cells hfx)).1]
        exact hk x (List.mem_of_getElem? hx0)
      · obtain ⟨x, b, hx0, hb0, _⟩ := cell i x' j b' hx hb; exact hrom _ _ _ (hr i x j b hx0 hb0)
      · obtain ⟨x, b, hx0, hb0, hfb⟩ := cell i x' j b' hx hb; exact IH i x j b hx0 hb0 hfb
      · cases tk with
        | sealed => trivial
        | full => exact ht
        | res t =>
          simp only [freezeTk]
          split <;> exact ht
        | tok t =>
          simp only [freezeTk]
          split
          · rename_i ht'; exact ⟨ht.1, by simp [restr, ht', ht.2]⟩
          · trivial
    | msl e g b o m cap c hm hcc hn ht =>
      have old : b < n → v' = .msl e b o m c → VR (restr G n σ w R) (.slice (some ⟨g, o, none⟩) m cap) v' := by
        intro hb e'
        subst e'
        exact .msl e g b o m cap c (by simp [restr, hb, hm]) hcc hn fun e' => by simp [restr, hb, ht e']
      cases d with
      | zero =>
        rw [Ev.freeze] at hf
        split at hf
        · rename_i hb; cases hf; exact old hb rfl
        · cases hf
      | succ d =>
        rw [Ev.freeze] at hf
        split at hf
        · rename_i hb; cases hf; exact old hb rfl
        · rename_i hb
          split at hf
          · rename_i xs hvs
            split at hf
            · cases hf
            rename_i hsz
            obtain ⟨u, hu, rfl⟩ := Option.map_eq_some_iff.1 hf
            simp only [viewS] at hvs
            cases hrd : rdCells σ b o (m * tsize P e) with
            | none => simp [hrd] at hvs
            | some cs =>
              simp only [hrd, Option.bind_some] at hvs
              unfold rdCells at hrd
              split at hrd
              · rename_i e' ds hbb
                split at hrd
                · rename_i hle
                  cases hrd
                  obtain ⟨g', c', fz, hm', hh, h1, h2, _, h5, _⟩ := hs.cells hbb
                  rw [hm] at hm'; cases hm'
                  obtain ⟨h3, h4, h6⟩ := chunks_flat hvs (by simp; omega)
                  obtain ⟨h7, h8⟩ := frL_get hu
                  have hk : 0 < tsize P e := by omega
                  have hlen : u.length = m := by omega
                  have cell : ∀ (i : Nat) x' (j : Nat) b', u[i]? = some x' → (vcells x')[j]? = some b' → ∃ b1, (flat xs)[i * tsize P e + j]? = some b1 ∧ Ev.freeze P n σ d b1 = some b' ∧ i * tsize P e + j < m * tsize P e := by
                    intro i x' j b' hx hb'
                    obtain ⟨x, hx0, hfx⟩ := h8 i x' hx
                    obtain ⟨h9, h10⟩ := frL_get (freeze_cells hfx)
                    obtain ⟨b1, hb1, hfb⟩ := h10 j b' hb'
                    have hat := flat_at h4 hx0 hb1
                    have hlt := (List.getElem?_eq_some_iff.1 hat).1
                    rw [flat_length h4, h6] at hlt
                    exact ⟨b1, hat, hfb, hlt⟩
                  have hval : ∀ q b1, (flat xs)[q]? = some b1 → q < m * tsize P e → VR G (c'.toList.getD (o + q) Go.undef) b1 := by
                    intro q b1 hq hlt
                    rw [h3, List.take_take, Nat.min_self, List.getElem?_take, if_pos hlt, List.getElem?_drop] at hq
                    obtain ⟨a, ha, hv⟩ := h2.get? hq
                    rw [List.getElem?_take] at ha
                    split at ha
                    · rw [List.getD_eq_getElem?_getD, ha]; exact hv
                    · cases ha
                  rw [← hlen]
                  refine .sl g o cap (tsize P e) .sealed u (fun i j => c'.toList.getD (o + (i * tsize P e + j)) Go.undef) (fun x' hx => ?_) (fun i x' j b' hx hb' => ?_) (fun i x' j b' hx hb' => ?_) (by omega) trivial
                  · obtain ⟨i, hi, rfl⟩ := List.getElem_of_mem hx
                    obtain ⟨x, hx0, hfx⟩ := h8 i _ (List.getElem?_eq_getElem hi)
                    rw [← (frL_get (freeze_cells hfx)).1]
                    exact h4 x (List.mem_of_getElem? hx0)
                  · obtain ⟨b1, hb1, _, hlt⟩ := cell i x' j b' hx hb'
                    have hlc : o + (i * tsize P e + j) < c'.size := by omega
                    have hcell : w.cell? ⟨g, o + i * tsize P e + j, none⟩ = some (c'.toList.getD (o + (i * tsize P e + j)) Go.undef) := by
                      rw [cell?_of_heap hh, Nat.add_assoc]
                      simp [List.getD_eq_getElem?_getD, hlc]
                    have hex : ∃ b e cs, n ≤ b ∧ σ[b]? = some (.cells e cs) ∧ G.mu b = some g := ⟨b, e', ds, by omega, hbb, hm⟩
                    simp only [restr, h5]
                    rw [if_pos hex]
                    exact hcell
                  · obtain ⟨b1, hb1, hfb, hlt⟩ := cell i x' j b' hx hb'
                    exact ih d rfl (hval _ _ hb1 hlt) hfb
                · cases hrd
              · cases hrd
          · cases hf
    | nilsl t => rw [Ev.freeze] at hf; cases hf; exact .nilsl _
    | map g b hm =>
      rw [Ev.freeze] at hf
      split at hf
      · rename_i hb; cases hf; exact .map g b (by simp [restr, hb, hm])
      · cases hf
    | nilmap => rw [Ev.freeze] at hf; cases hf; exact .nilmap
    | func fn a c a' c' hfn hl _ hl' _ IH IH' =>
      rw [Ev.freeze] at hf
      split at hf
      · rename_i u u' hu hu'
        cases hf
        have h1 := list hl (fun i a b ha hb b' hb' => IH i a b ha hb hb') hu
        have h2 := list hl' (fun i a b ha hb b' hb' => IH' i a b ha hb hb') hu'
        exact .func fn a c _ _ hfn h1.len h1.at_ h2.len h2.at_
      · cases hf
    | yield g l hm =>
      rw [Ev.freeze] at hf
      split at hf
      · rename_i hb; cases hf; exact .yield g l (by simp [restr, hb, hm])
      · cases hf
    | nilfunc => rw [Ev.freeze] at hf; cases hf; exact .nilfunc
    | iface t x v _ IH =>
      rw [Ev.freeze] at hf
      obtain ⟨u, hu, rfl⟩ := Option.map_eq_some_iff.1 hf
      exact .iface t x _ (IH hu)
    | nilif => rw [Ev.freeze] at hf; cases hf; exact .nilif

/-- Fewer blocks are kept for deferred calls. -/
theorem Sim.resTo {G0 : Mm} {w0 : World} (h0 : Sim P G0 base σ w0) (hs : Sim P G base σ' w) (hle : G0.LE G) (hn : NoNewLoops σ σ') :
    G0.LE { G with res := G0.res } ∧ Sim P { G with res := G0.res } base σ' w ∧ ∀ {x : Value} {v : V}, VR G x v → VR { G with res := G0.res } x v := by
  have hv : ∀ {x : Value} {v : V}, VR G x v → VR { G with res := G0.res } x v := by
    intro x v h
    induction h with
    | bool b => exact .bool b
    | int k n => exact .int k n
    | str s => exact .str s
    | agg cs ds hl _ ih => exact .agg cs ds hl ih
    | tup cs ds hl _ ih => exact .tup cs ds hl ih
    | ptr g b o h => exact .ptr g b o h
    | rptr g o cs f h _ ih => exact .rptr g o cs f h ih
    | nilptr => exact .nilptr
    | sl g o cap k tk xs f hk h _ hc ht ih => exact .sl g o cap k tk xs f hk h ih hc (by cases tk <;> exact ht)
    | msl e g b o n cap c h hc hn ht => exact .msl e g b o n cap c h hc hn ht
    | nilsl t => exact .nilsl t
    | map g b h => exact .map g b h
    | nilmap => exact .nilmap
    | func fn a c a' c' hf hl _ hl' _ ih ih' => exact .func fn a c a' c' hf hl ih hl' ih'
    | yield g l h => exact .yield g l h
    | nilfunc => exact .nilfunc
    | iface t x v _ ih => exact .iface t x v ih
    | nilif => exact .nilif
  have hl : ∀ {as : List Value} {bs : List V}, LR G as bs → LR { G with res := G0.res } as bs := fun h => ⟨h.len, fun i a b ha hb => hv (h.at_ i a b ha hb)⟩
  refine ⟨⟨hle.rom, hle.mu, hle.tk, fun _ h => h, hle.ld⟩, ⟨hs.rom, fun b o h => ?_, hs.mulen, hs.tklen, fun b o b' o' g h h' hb hb' => hs.uniq b o b' o' g h h' (by cases o <;> exact hb) (by cases o' <;> exact hb'), fun b o g h hb => hs.above b o g h (by cases o <;> exact hb), fun r hr => hs.res r (hle.res r hr), hs.big⟩, hv⟩
  have hr := hs.obj b o h
  cases o with
  | cells e cs =>
    obtain ⟨g, hm, hc⟩ := hr
    refine ⟨g, hm, ?_⟩
    unfold CellsR at hc ⊢
    split at hc
    · obtain ⟨a1, a2, a3, a4, a5, a6⟩ := hc; exact ⟨a1, a2, hl a3, a4, a5, a6⟩
    · exact hc.elim
  | tok e n => exact hr
  | map es =>
    obtain ⟨g, hm, hc⟩ := hr
    refine ⟨g, hm, ?_⟩
    unfold MapR at hc ⊢
    split at hc
    · exact ⟨hl hc.1, hl hc.2⟩
    · exact hc.elim
  | loop r =>
    obtain ⟨g, hm, hc⟩ := hr
    refine ⟨g, hm, ?_⟩
    obtain ⟨r0, hr0⟩ := hn b r h
    obtain ⟨d, hd1, hd2⟩ := h0.loopLd hr0
    unfold LoopR at hc ⊢
    split at hc
    · rename_i l hh
      obtain ⟨a1, a2, a3, a4, a5, a6, a7, a8, a9⟩ := hc
      have hdl : d = l.defers := by have := hle.ld _ _ hd1; rw [a9] at this; exact (Option.some.inj this).symm
      exact ⟨a1, a2, a3, hl a4, a5, a6, a7, hdl ▸ hd2, a9⟩
    · exact hc.elim
  | siter s p => exact hr
  | dead => trivial

/-- How a call ends. -/
theorem fin_sound {G0 : Mm} {w0 : World} {raw : Bool} (h0 : Sim P G0 base σ w0) (hs : Sim P G base σ' w) (hle : G0.LE G) {x : Value} {v : V} (hx : VR G x v) (hn : NoNewLoops σ (fin P raw σ σ' v).2) :
    ∃ H, G0.LE H ∧ Sim P H base (fin P raw σ σ' v).2 w ∧ VR H x (fin P raw σ σ' v).1 ∧ H.res = G0.res := by
  have rawc : NoNewLoops σ σ' → ∃ H, G0.LE H ∧ Sim P H base σ' w ∧ VR H x v ∧ H.res = G0.res := fun hn => by
    obtain ⟨h1, h2, h3⟩ := h0.resTo hs hle hn
    exact ⟨_, h1, h2, h3 hx, rfl⟩
  unfold fin at hn ⊢
  split at hn
  · rename_i hc
    rw [if_pos hc]
    split at hn
    · rename_i v' hf
      obtain ⟨h1, h2⟩ := h0.restrict hs hle hc.2 (R := G0.res) (fun r h => hle.res r h) (fun r h => h)
      simp only [hf]
      exact ⟨_, h1, h2, freeze_sound hs 3 hx hf, rfl⟩
    · rename_i hf
      simp only [hf]
      exact rawc hn
  · rename_i hc
    rw [if_neg hc]
    exact rawc hn
end
end Go.Ev

set_option linter.unusedSimpArgs false
set_option linter.unusedVariables false
namespace Go.Ev
open Go.RowKit

section
variable {P : Program} {G G' : Mm} {base : Nat} {σ σ' : St} {w w' : World} {b : Frame} {ts : Array Value} {k : List Item} {cs : List Frame} {ds : List Deferred}

/-- A frame that returns. -/
def frr (b : Frame) (ts : Array Value) (todo : List Item) (ds : List Deferred) : Frame := { b with tmps := ts, todo := todo, defers := ds, mode := .returning }

theorem st_end (hr : b.roundOf = none) : step P (lone (fra b ts [] ds) cs w) = .next (lone (frr b ts [] ds) cs w) := step_lone_go (by simp [stepG, stepG.exec, fra, frr, hr])
theorem st_ret (hr : b.roundOf = none) : step P (lone (fra b ts (.code .ret :: k) ds) cs w) = .next (lone (frr b ts (.code .ret :: k) ds) cs w) := step_lone_go (by simp [stepG, stepG.exec, fra, frr, hr])

theorem st_unwind {r : Nat} {rs : List Nat} (h : w.heap[r]? = some (.deferred (some []))) : step P (lone (frr b ts k (marks (r :: rs))) cs w) = .next (lone (frr b ts k (marks rs)) cs (setBlk w r (.deferred none))) := by
  refine step_lone_go ?_
  have h1 : (Instr.takeDeferred r).run P w = .ok [] (setBlk w r (.deferred none)) := by
    simp [Instr.takeDeferred, run_getObj h (by simp), run_setObj h (by simp)]
  simp [stepG, unwind, frr, marks, h1]

/-- What is no object's block may turn. -/
theorem Sim.turnFree (hs : Sim P G base σ w) {r : Nat} {d d' : Option (List Deferred)} (h : w.heap[r]? = some (.deferred d)) (hr : ¬ G.res r) (hb : base ≤ r) : Sim P G base σ (setBlk w r (.deferred d')) := by
  refine hs.master r hb (setBlk_ne w r _) (by rw [setBlk_size]; exact hs.big) (.refl _) (fun k o v hv _ => hv) (fun o v hv => ?_) hs.mulen hs.tklen (fun x hx => .inl ⟨hx, fun e => hr (e ▸ hx)⟩) (fun x o hx => .inl ⟨hx, fun hk => ?_, fun n p hp => hp, fun k hk => hk⟩) (fun x o x' o' hx hx' hk hk' => hs.uniq x o x' o' r hx hx' hk hk')
  · have := hs.rom r o v hv; simp [World.cell?, h] at this
  · have ho := hs.obj x o hx
    cases o with
    | cells e cs => obtain ⟨g, hm, hc⟩ := ho; have hk' : G.mu x = some r := hk; rw [hm] at hk'; cases hk'; rw [h] at hc; exact hc
    | map es => obtain ⟨g, hm, hc⟩ := ho; have hk' : G.mu x = some r := hk; rw [hm] at hk'; cases hk'; rw [h] at hc; exact hc
    | loop l => obtain ⟨g, hm, hc⟩ := ho; have hk' : G.mu x = some r := hk; rw [hm] at hk'; cases hk'; rw [h] at hc; exact hc
    | siter s p => obtain ⟨g, hm, hc⟩ := ho; have hk' : G.mu x = some r := hk; rw [hm] at hk'; cases hk'; rw [h] at hc; cases hc
    | tok e n =>
      obtain ⟨h0, cap, hk⟩ := hk
      obtain ⟨_, ho⟩ := ho
      rcases ho with ho | ⟨g, cap', h1, h2⟩
      · omega
      · rw [hk] at h1; cases h1; rw [h] at h2; exact h2
    | dead => exact hk

/-- The blocks of deferred calls, taken. -/
def shut (w : World) : List Nat → World
  | [] => w
  | r :: rs => shut (setBlk w r (.deferred none)) rs

theorem steps_unwind : ∀ (rs : List Nat) (w : World), (∀ r ∈ rs, w.heap[r]? = some (.deferred (some []))) → rs.Nodup →
    Steps P (lone (frr b ts k (marks rs)) cs w) (lone (frr b ts k []) cs (shut w rs))
  | [], w, _, _ => .refl _ _
  | r :: rs, w, h, hn => by
    have h1 := h r (by simp)
    have hn' := List.nodup_cons.1 hn
    exact .head (st_unwind h1) (steps_unwind rs _ (fun x hx => by
      rw [setBlk_ne]
      · exact h x (by simp [hx])
      · rintro rfl; exact hn'.1 hx) hn'.2)

theorem shut_sound : ∀ (rs : List Nat) (w : World), (∀ r ∈ rs, w.heap[r]? = some (.deferred (some []))) → rs.Nodup → (∀ r ∈ rs, ¬ G.res r ∧ base ≤ r) → Sim P G base σ w →
    Sim P G base σ (shut w rs)
  | [], w, _, _, _, hs => hs
  | r :: rs, w, h, hn, hr, hs => by
    have h1 := h r (by simp)
    have hn' := List.nodup_cons.1 hn
    exact shut_sound rs _ (fun x hx => by
      rw [setBlk_ne]
      · exact h x (by simp [hx])
      · rintro rfl; exact hn'.1 hx) hn'.2 (fun x hx => hr x (by simp [hx])) (hs.turnFree (d' := none) h1 (hr r (by simp)).1 (hr r (by simp)).2)

theorem shut_below : ∀ (rs : List Nat) (w : World), (∀ r ∈ rs, base ≤ r) → Below base w (shut w rs)
  | [], w, _ => .refl _ _
  | r :: rs, w, h => (setBlk_below w r _ (h r (by simp))).trans (shut_below rs _ fun x hx => h x (by simp [hx]))

/-- One result of a frame, as the machine reads it. -/
def resSem (ts : Array Value) (r : ResultVar) : Sem Value := match r with | .tmp t => (pure (ts.getD t Go.undef) : Sem Value) | .cell a t => do loadVar t (← asAddr (ts.getD a Go.undef))

theorem resultsL_sound (hs : Sim P G base σ w) {fr : Fr} (hf : LR G ts.toList fr) : ∀ {rs : List ResultVar} {vs : List V}, resultsL P fr σ rs = some vs →
    ∃ vs', (rs.mapM (resSem ts)).run P w = .ok vs' w ∧ LR G vs' vs
  | [], vs, h => by simp [resultsL] at h; subst h; exact ⟨[], by simp, .nil⟩
  | r :: rs, vs, h => by
    unfold resultsL at h
    split at h
    · rename_i v vs' h1 h2
      cases h
      obtain ⟨us, hr, hl⟩ := resultsL_sound hs hf h2
      have hg : ∀ t, VR G (ts.getD t Go.undef) (get fr t) := fun t => by
        have := hf.getD t VR.undef
        simpa [get, List.getD_eq_getElem?_getD, Array.getD_eq_getD_getElem?] using this
      cases r with
      | tmp t =>
        simp only [resultV, Option.some.injEq] at h1
        subst h1
        exact ⟨_ :: us, by simp [hr, resSem], .cons (hg t) hl⟩
      | cell a t =>
        simp only [resultV] at h1
        obtain ⟨v', hr1, hv⟩ := loadV_sound hs (hg a) h1
        refine ⟨v' :: us, ?_, .cons hv hl⟩
        have hx := hg a
        have hla : (do loadVar t (← asAddr (ts.getD a Go.undef))).run P w = .ok v' w := by
          generalize ts.getD a Go.undef = x at hx hr1
          generalize get fr a = y at hx h1
          unfold loadV at h1
          split at h1
          case isFalse => cases h1
          cases hx <;> simp [readN] at h1
          · simpa [Instr.loadAt, Instr.sureAddr, asAddr] using hr1
          · simpa [Instr.loadAt, Instr.sureAddr, asAddr] using hr1
        rw [List.mapM_cons, Sem.run_bind, show (resSem ts (.cell a t)).run P w = .ok v' w from hla]
        simp [hr]
    · cases h

theorem results_sound (hs : Sim P G base σ w) {fr : Fr} (hf : LR G ts.toList fr) {fn : Func} {v : V} (h : resultsV P fn fr σ = some v) : ∃ v', (results fn ts).run P w = .ok v' w ∧ VR G v' v := by
  unfold resultsV at h
  obtain ⟨vs, hvs, rfl⟩ := Option.map_eq_some_iff.1 h
  obtain ⟨us, hr, hl⟩ := resultsL_sound hs hf hvs
  have hm : (results fn ts).run P w = .ok (if h : us.toArray.size = 1 then us.toArray[0] else .tuple us.toArray) w := by
    unfold results
    rw [Array.mapM_eq_mapM_toList]
    simp only [Sem.run_bind, Sem.run_map, Result.andThen_ok, Sem.run_pure]
    change ((Sem.run P (List.mapM (resSem ts) fn.results.toList) w).andThen _).andThen _ = _
    rw [hr]; rfl
  refine ⟨_, hm, ?_⟩
  match us, vs, hl with
  | [], [], hl => exact .tup _ _ rfl (by simp)
  | [a], [b], hl => exact hl.head
  | a :: a' :: as, b :: b' :: bs, hl =>
    have : ¬ (a :: a' :: as).toArray.size = 1 := by simp
    rw [dif_neg this]
    exact .tup _ _ hl.len hl.at_
  | [], _ :: _, hl => have := hl.len; simp at this
  | _ :: _, [], hl => have := hl.len; simp at this
  | [_], _ :: _ :: _, hl => have := hl.len; simp at this
  | _ :: _ :: _, [_], hl => have := hl.len; simp at this

theorem st_leave {fn : Func} (hf : P.funcs[b.fn]? = some fn) (hk : b.kind = .normal) {v : Value} (hr : (results fn ts).run P w = .ok v w) {c : Frame} : step P (lone (frr b ts k []) (c :: cs) w) = .next (lone (c.finish v) cs w) :=
  step_lone_go (by simp [stepG, unwind, doReturn, frr, hk, hf, hr])
end
end Go.Ev

set_option linter.unusedSimpArgs false
set_option linter.unusedVariables false
namespace Go.Ev
open Go.RowKit

section
variable {P : Program} {G G' : Mm} {base : Nat} {σ σ' : St} {w w' : World} {b : Frame} {ts : Array Value} {k : List Item} {cs : List Frame} {ds : List Deferred}

theorem putObj_eq (w : World) (g : Nat) (o : Obj) : w.putObj g o = setBlk w g o := rfl

/-- The same, but for what is said of deferred calls. -/
def side (G : Mm) (R : Nat → Prop) (L : Nat → Option Nat) : Mm := { G with res := R, ld := L }

theorem VR.side {R : Nat → Prop} {L : Nat → Option Nat} {x : Value} {v : V} (h : VR G x v) : VR (Ev.side G R L) x v := by
  induction h with
  | bool b => exact .bool b
  | int k n => exact .int k n
  | str s => exact .str s
  | agg cs ds hl _ ih => exact .agg cs ds hl ih
  | tup cs ds hl _ ih => exact .tup cs ds hl ih
  | ptr g b o h => exact .ptr g b o h
  | rptr g o cs f h _ ih => exact .rptr g o cs f h ih
  | nilptr => exact .nilptr
  | sl g o cap k tk xs f hk h _ hc ht ih => exact .sl g o cap k tk xs f hk h ih hc (by cases tk <;> exact ht)
  | msl e g b o n cap c h hc hn ht => exact .msl e g b o n cap c h hc hn ht
  | nilsl t => exact .nilsl t
  | map g b h => exact .map g b h
  | nilmap => exact .nilmap
  | func fn a c a' c' hf hl _ hl' _ ih ih' => exact .func fn a c a' c' hf hl ih hl' ih'
  | yield g l h => exact .yield g l h
  | nilfunc => exact .nilfunc
  | iface t x v _ ih => exact .iface t x v ih
  | nilif => exact .nilif

theorem LR.side {R : Nat → Prop} {L : Nat → Option Nat} {as : List Value} {bs : List V} (h : LR G as bs) : LR (Ev.side G R L) as bs := ⟨h.len, fun i a b ha hb => (h.at_ i a b ha hb).side⟩

theorem Sim.side (hs : Sim P G base σ w) {R : Nat → Prop} {L : Nat → Option Nat} (hR : ∀ r, R r → w.heap[r]? = some (.deferred (some [])) ∧ base ≤ r)
    (hL : ∀ (b : Nat) r (g : Nat) (l : Loop), σ[b]? = some (.loop r) → w.heap[g]? = some (.loop l) → G.res l.defers → G.ld b = some l.defers → R l.defers ∧ L b = some l.defers) : Sim P (Ev.side G R L) base σ w := by
  refine ⟨hs.rom, fun b o h => ?_, hs.mulen, hs.tklen, fun b o b' o' g h h' hb hb' => hs.uniq b o b' o' g h h' (by cases o <;> exact hb) (by cases o' <;> exact hb'), fun b o g h hb => hs.above b o g h (by cases o <;> exact hb), hR, hs.big⟩
  have hr := hs.obj b o h
  cases o with
  | cells e cs =>
    obtain ⟨g, hm, hc⟩ := hr
    refine ⟨g, hm, ?_⟩
    unfold CellsR at hc ⊢
    split at hc
    · obtain ⟨a1, a2, a3, a4, a5, a6⟩ := hc; exact ⟨a1, a2, a3.side, a4, a5, a6⟩
    · exact hc.elim
  | tok e n => exact hr
  | map es =>
    obtain ⟨g, hm, hc⟩ := hr
    refine ⟨g, hm, ?_⟩
    unfold MapR at hc ⊢
    split at hc
    · exact ⟨hc.1.side, hc.2.side⟩
    · exact hc.elim
  | loop r =>
    obtain ⟨g, hm, hc⟩ := hr
    refine ⟨g, hm, ?_⟩
    cases hh : w.heap[g]? with
    | none => rw [hh] at hc; exact hc.elim
    | some ob =>
      rw [hh] at hc
      cases ob with
      | loop l =>
        obtain ⟨a1, a2, a3, a4, a5, a6, a7, a8, a9⟩ := hc
        obtain ⟨c1, c2⟩ := hL b r g l h hh a8 a9
        exact ⟨a1, a2, a3, a4.side, a5, a6, a7, c1, c2⟩
      | _ => exact hc.elim
  | siter s p => exact hr
  | dead => trivial

/-- A loop's record. -/
theorem Sim.loopAt (hs : Sim P G base σ w) {b : Nat} {r : ALoop} (h : σ[b]? = some (.loop r)) : ∃ g l, G.mu b = some g ∧ w.heap[g]? = some (.loop l) ∧
    l.state = r.state ∧ l.pending = r.pending ∧ l.fn = r.fn ∧ LR G l.tmps.toList r.tmps ∧ l.params = r.params ∧ l.assign = r.assign ∧ l.body = r.body ∧ G.res l.defers ∧ G.ld b = some l.defers := by
  obtain ⟨g, hm, hc⟩ := hs.obj b _ h
  cases hh : w.heap[g]? with
  | none => rw [hh] at hc; exact hc.elim
  | some ob =>
    rw [hh] at hc
    cases ob with
    | loop l => exact ⟨g, l, hm, hh, hc⟩
    | _ => exact hc.elim

/-- A loop's record turns. -/
theorem Sim.turnLoop (hs : Sim P G base σ w) {b : Nat} {r : ALoop} (h : σ[b]? = some (.loop r)) {g : Nat} {l : Loop} (hm : G.mu b = some g) (hh : w.heap[g]? = some (.loop l)) (s : LoopState) (p : Option Code) :
    Sim P G base (σ.set b (.loop { r with state := s, pending := p })) (setBlk w g (.loop { l with state := s, pending := p })) := by
  obtain ⟨g', l', hm', hh', a1, a2, a3, a4, a5, a6, a7, a8, a9⟩ := hs.loopAt h
  rw [hm] at hm'; cases hm'
  rw [hh] at hh'; cases hh'
  refine hs.turn h hm (fun _ => rfl) (fun _ => rfl) hh (by intro c e f h; cases h) (by intro d h; cases h) ?_
  refine ⟨g, hm, ?_⟩
  rw [setBlk_at _ _ _ (Array.getElem?_eq_some_iff.1 hh).1]
  exact ⟨rfl, rfl, a3, a4, a5, a6, a7, a8, a9⟩

/-- A block for deferred calls. -/
theorem Sim.pushRes (hs : Sim P G base σ w) : Sim P (addRes G w.heap.size) base σ (w.alloc (.deferred (some []))) := by
  have hne : ∀ k, k ≠ w.heap.size → (w.alloc (.deferred (some []))).heap[k]? = w.heap[k]? := pushW_ne w _
  have hat : (w.alloc (.deferred (some []))).heap[w.heap.size]? = some (.deferred (some [])) := pushW_at w _
  refine hs.master w.heap.size hs.big hne (by have := hs.big; simp; omega) addRes_le (fun k o v hv _ => hv) (fun o v hv => ?_) hs.mulen hs.tklen (fun r hr => ?_) (fun x o hx => .inl ⟨hx, fun hk => absurd (hs.lt hx hk) (by omega), fun n p hp => hp, fun k hk => hk⟩)
    (fun x o x' o' hx hx' hk hk' => absurd (hs.lt hx (show Blk G x o _ from by cases o <;> exact hk)) (by omega))
  · have h' : G.rom w.heap.size o = some v := hv
    rw [hs.romNone (Nat.le_refl _)] at h'; cases h'
  · rcases hr with hr | hr
    · exact .inl ⟨hr, fun e => by have := (hs.res r hr).1; rw [e, Array.getElem?_eq_none (Nat.le_refl _)] at this; cases this⟩
    · exact .inr ⟨hr, hat⟩

def addLoop (G : Mm) (b g d : Nat) : Mm := { addMu G b g with ld := fun x => if x = b then some d else G.ld x }

theorem Sim.pushLoop (hs : Sim P G base σ w) (hld : G.ld σ.length = none) {d : Nat} (hd : G.res d) {l : Loop} {r : ALoop} (hdl : l.defers = d) (h : l.state = r.state ∧ l.pending = r.pending ∧ l.fn = r.fn ∧ LR G l.tmps.toList r.tmps ∧ l.params = r.params ∧ l.assign = r.assign ∧ l.body = r.body) :
    G.LE (addLoop G σ.length w.heap.size d) ∧ Sim P (addLoop G σ.length w.heap.size d) base (σ ++ [.loop r]) (w.alloc (.loop l)) := by
  have hle0 := addMu_le (G := G) (g := w.heap.size) (hs.muNone (b := σ.length) (Nat.le_refl _))
  have hle : G.LE (addLoop G σ.length w.heap.size d) := ⟨hle0.rom, hle0.mu, hle0.tk, hle0.res, fun x e hx => by
    show (if x = σ.length then some d else G.ld x) = some e
    rw [if_neg (fun e => by rw [e, hld] at hx; cases hx)]; exact hx⟩
  have hne : ∀ k, k ≠ w.heap.size → (w.alloc (.loop l)).heap[k]? = w.heap[k]? := pushW_ne w _
  have hat : (w.alloc (.loop l)).heap[w.heap.size]? = some (.loop l) := pushW_at w _
  have hmu : (addLoop G σ.length w.heap.size d).mu σ.length = some w.heap.size := by simp [addLoop, addMu]
  refine ⟨hle, hs.adopt _ w.heap.size hle (fun b k h => addMu_of h) (fun t n p h => .inl h) (fun k i _ => rfl)
    (fun i v h => by have h' : G.rom w.heap.size i = some v := h; rw [hs.romNone (Nat.le_refl _)] at h'; cases h')
    (fun r h => ⟨h, hs.resNe h⟩) (fun b o h hb => absurd (hs.lt h hb) (by omega)) hs.big hne (by have := hs.big; simp; omega) ?_ (fun k hk => ?_)⟩
  · refine ⟨w.heap.size, hmu, ?_⟩
    rw [hat]
    obtain ⟨a1, a2, a3, a4, a5, a6, a7⟩ := h
    exact ⟨a1, a2, a3, a4.mono hle, a5, a6, a7, hdl ▸ hd, by simp [addLoop, hdl]⟩
  · have hk' : (addLoop G σ.length w.heap.size d).mu σ.length = some k := hk
    rw [hmu] at hk'; exact (Option.some.inj hk').symm

/-! ### The machine's steps -/
theorem st_leave_round {g : Nat} {l : Loop} {j : Option Code} {c : Frame} {todo : List Item} (hr : b.roundOf = some g) (hk : b.kind = .normal) (hh : w.heap[g]? = some (.loop l))
    (ht : (todo = [] ∧ j = none) ∨ (∃ k, todo = .code .ret :: k ∧ j = some .ret) ∨ (∃ id k, todo = .code (.exit id) :: k ∧ exitTo id k = none ∧ j = some (.exit id))) :
    step P (lone (fra b ts todo ds) (c :: cs) w) = .next (lone (c.finish (.bool j.isNone)) cs (setBlk w g (.loop { l with state := if j.isNone then .ready else .done, pending := j }))) := by
  refine step_lone_go ?_
  have h1 := run_endRound (P := P) j hh
  rcases ht with ⟨rfl, rfl⟩ | ⟨k, rfl, rfl⟩ | ⟨id, k, rfl, he, rfl⟩
  · simp [stepG, stepG.exec, fra, hr, h1, doReturn, hk, putObj_eq]
  · simp [stepG, stepG.exec, fra, hr, h1, doReturn, hk, putObj_eq]
  · simp [stepG, stepG.exec, fra, hr, h1, doReturn, hk, putObj_eq, he]

theorem st_beginRound {g : Nat} {l : Loop} (hr : b.roundOf = some g) (hh : w.heap[g]? = some (.loop l)) (hl : l.state = .ready) :
    step P (lone (fra b ts (.beginRound :: k) ds) cs w) = .next (lone (fra b ts k ds) cs (setBlk w g (.loop { l with state := .busy }))) := by
  refine step_lone_go ?_
  have h1 := run_beginRound (P := P) hh hl
  simp [stepG, stepG.exec, stepG.apply, fra, hr, h1, putObj_eq, Frame.finish]

theorem st_endRangeFunc {g : Nat} {l : Loop} (hh : w.heap[g]? = some (.loop l)) (hl : l.state ≠ .busy) :
    step P (lone (fra b ts (.endRangeFunc g :: k) ds) cs w) = .next (lone (fra b ts ((l.pending.map Item.code).toList ++ k) ds) cs (setBlk w g (.loop { l with state := .exhausted }))) := by
  refine step_lone_go ?_
  have h1 := run_endLoop (P := P) hh hl
  simp [stepG, stepG.exec, fra, h1, putObj_eq]

/-- The loop over an iterator is entered; the iterator is called. -/
theorem rangeFunc_goes {x : Operand} {ps : Array Tmp} {assign body : Code} {g : Nat} {mark : List Deferred} {w1 : World}
    (he : (Instr.enterLoop b.fn ts ps assign body b.roundOf).run P w = .ok (g, mark) w1) {fv : Value} (hx : ({ tmps := ts, defers := ds } : Act).eval x = fv) {r : Next} {w2 : World}
    (h : (do let d ← Deferred.ofValue fv #[.func (.yield g) #[] #[]]; invoke d.target d.args).run P w1 = .ok r w2) {v' : Value} {w' : World}
    (hg : Goes P (fra b ts (.inRangeFunc g :: k) (mark ++ ds)) cs r w2 v' w') :
    Steps P (lone (fra b ts (.code (.rangeFunc x ps assign body) :: k) ds) cs w) (lone (fra b ts (.endRangeFunc g :: k) (mark ++ ds)) cs w') := by
  have hev : (fra b ts (.inRangeFunc g :: k) (mark ++ ds)).eval x = fv := by rw [fra_eval]; rw [← hx]; cases x <;> rfl
  have key : ∀ gs, (stepG.apply P true (fra b ts (.inRangeFunc g :: k) (mark ++ ds)) cs none (do let d ← Deferred.ofValue fv #[.func (.yield g) #[] #[]]; invoke d.target d.args) w1).bare = gs →
      (stepG P true { frame := fra b ts (.code (.rangeFunc x ps assign body) :: k) ds, callers := cs, status := .running, dying := none } w).bare = gs := by
    intro gs hgs
    rw [← hgs]
    simp only [fra] at hev
    simp [stepG, stepG.exec, fra, he, resolve, hev]
    rfl
  cases r with
  | value v =>
    obtain ⟨rfl, rfl⟩ := hg
    refine .one (step_lone_go (key _ ?_))
    simp [stepG.apply, h, Frame.finish, fra]
  | enter f as =>
    refine .head (step_lone_go (key _ ?_)) (hg)
    simp [stepG.apply, h, fra]
  | round l f as x bd =>
    refine .head (step_lone_go (key _ ?_)) (hg)
    simp [stepG.apply, h, fra]
  | _ => exact hg.elim
end
end Go.Ev

set_option linter.unusedSimpArgs false
set_option linter.unusedVariables false
set_option maxHeartbeats 1000000
namespace Go.Ev
open Go.RowKit

def RdOK (G : Mm) (ro : Option Nat) (rd : Option Nat) : Prop := match rd with | none => ro = none | some l => ∃ g, ro = some g ∧ G.mu l = some g

def Entry (c : Code) (it : Item) : Prop := it = .code c ∨ ∃ body, c = .loop body ∧ it = .inLoop body

def Arr (P : Program) (b : Frame) (k : List Item) (cs : List Frame) (w' : World) (ts' : Array Value) (ds' : List Deferred) (m : Machine) : Ex → Prop
  | .normal => Steps P m (lone (fra b ts' k ds') cs w')
  | .exit id => ∃ kk, Steps P m (lone (fra b ts' (.code (.exit id) :: kk) ds') cs w') ∧ exitTo id kk = exitTo id k
  | .ret => ∃ kk, Steps P m (lone (fra b ts' (.code .ret :: kk) ds') cs w')

def Marks (G : Mm) (lo : Nat) (rs : List Nat) : Prop := rs.Nodup ∧ ∀ r ∈ rs, G.res r ∧ lo ≤ r

def CodeOK (P : Program) (base : Nat) (f : FuncId) (rd : Option Nat) (c : Code) (fr : Fr) (σ : St) (e : Ex) (fr' : Fr) (σ' : St) : Prop :=
  ∀ (G : Mm) (w : World) (ts : Array Value) (b : Frame) (k : List Item) (cs : List Frame) (rs : List Nat) (lo : Nat) (it : Item),
    Sim P G base σ w → LR G ts.toList fr → b.fn = f → RdOK G b.roundOf rd → Marks G lo rs → lo ≤ w.heap.size → Entry c it →
    ∃ G' w' ts' rs', G.LE G' ∧ Sim P G' base σ' w' ∧ LR G' ts'.toList fr' ∧ Marks G' lo rs' ∧ (rd.isSome = true → rs' = rs) ∧ Below base w w' ∧
      Arr P b k cs w' ts' (marks rs') (lone (fra b ts (it :: k) (marks rs)) cs w) e

def OpsOK (P : Program) (base : Nat) (os : Array Oper) (l : List Nat) (fr : Fr) (σ : St) (fr' : Fr) (σ' : St) : Prop :=
  ∀ (G : Mm) (w : World) (ts : Array Value) (b : Frame) (k : List Item) (cs : List Frame) (ds : List Deferred), Sim P G base σ w → LR G ts.toList fr →
    ∃ G' w' ts', G.LE G' ∧ Sim P G' base σ' w' ∧ LR G' ts'.toList fr' ∧ Below base w w' ∧
      Steps P (lone (fra b ts (.inRegion os l :: k) ds) cs w) (lone (fra b ts' (.inRegion os [] :: k) ds) cs w')

/-- A call, as it begins. -/
def begins (fv : Value) (args : Array Value) : Sem Next := do let d ← Deferred.ofValue fv args; invoke d.target d.args

def CallOK (P : Program) (G : Mm) (base : Nat) (w : World) (s : Sem Next) (v : V) (σ' : St) : Prop :=
  ∀ fr cs, ∃ r w1 v' w' G', s.run P w = .ok r w1 ∧ Goes P fr cs r w1 v' w' ∧ G.LE G' ∧ Sim P G' base σ' w' ∧ VR G' v' v ∧ Below base w w'

def AppOK (P : Program) (base : Nat) (fv : V) (args : List V) (σ : St) (v : V) (σ' : St) : Prop :=
  ∀ G w fv' args', Sim P G base σ w → VR G fv' fv → LR G args'.toList args → CallOK P G base w (begins fv' args') v σ'

def TaskOK (P : Program) (base : Nat) : Task → St → Out → St → Prop
  | .code f _ rd c fr, σ, o, σ' => ∃ e fr', o = .code e fr' ∧ CodeOK P base f rd c fr σ e fr' σ'
  | .ops _ _ os l fr, σ, o, σ' => ∃ fr', o = .code .normal fr' ∧ OpsOK P base os l fr σ fr' σ'
  | .app _ fv args, σ, o, σ' => ∃ v, o = .val v ∧ AppOK P base fv args σ v σ'

/-- What the evaluator is told of functions is so. -/
def CfgOK (C : Cfg) (base : Nat) : Prop := ∀ {g args σ v σ'}, C.isPrim g = true → C.prim g args σ = some (v, σ') → ∀ G w args', Sim C.P G base σ w → LR G args'.toList args →
  CallOK C.P G base w (callFunc g args') v σ'

section
variable {P : Program} {G G' : Mm} {base : Nat} {σ σ' : St} {w w' : World} {b : Frame} {ts : Array Value} {k : List Item} {cs : List Frame} {ds : List Deferred}

theorem Marks.mono {lo : Nat} {rs : List Nat} (h : Marks G lo rs) (hle : G.LE G') : Marks G' lo rs := ⟨h.1, fun r hr => ⟨hle.res _ (h.2 r hr).1, (h.2 r hr).2⟩⟩
theorem RdOK.mono {ro rd : Option Nat} (h : RdOK G ro rd) (hle : G.LE G') : RdOK G' ro rd := by
  cases rd with
  | none => exact h
  | some l => obtain ⟨g, h1, h2⟩ := h; exact ⟨g, h1, hle.mu _ _ h2⟩

theorem Arr.of {w1 : World} {ts' : Array Value} {ds' : List Deferred} {m m' : Machine} {e : Ex} (hs : Steps P m m') (h : Arr P b k cs w1 ts' ds' m' e) : Arr P b k cs w1 ts' ds' m e := by
  cases e with
  | normal => exact hs.trans h
  | exit id => obtain ⟨kk, h1, h2⟩ := h; exact ⟨kk, hs.trans h1, h2⟩
  | ret => obtain ⟨kk, h1⟩ := h; exact ⟨kk, hs.trans h1⟩

theorem Entry.of {c : Code} {it : Item} (h : Entry c it) (hl : ∀ body, c ≠ .loop body) : it = .code c := by
  rcases h with h | ⟨body, h, _⟩
  · exact h
  · exact absurd h (hl body)

theorem put_sound {b' : Fr} (hf : LR G ts.toList b') (d : Option Tmp) {v : Value} {x : V} (h : VR G v x) : LR G (putT ts d v).toList (put b' d x) := by
  cases d with
  | none => exact hf
  | some d => simpa [putT, put] using hf.set d h

theorem yielded_of {os : Array Oper} {fr : Fr} (hf : LR G ts.toList fr) {o : Oper} {t : Bool} (h : wantedV os o fr = t) : Region.wanted o (yielded os ts) = t := by
  unfold wantedV at h
  unfold Region.wanted yielded
  cases hg : o.guard with
  | none => rw [hg] at h; exact h
  | some jw =>
    obtain ⟨j, want⟩ := jw
    rw [hg] at h
    simp only at h ⊢
    cases hd : (os[j]?).bind (·.dst) with
    | none => rw [hd] at h; simpa using h
    | some d =>
      rw [hd] at h
      simp only [Option.bind_some] at h ⊢
      have hl := hf.len
      cases hx : fr[d]? with
      | none =>
        have : ts[d]? = none := by
          rw [← Array.getElem?_toList]
          rw [List.getElem?_eq_none_iff] at hx ⊢
          omega
        rw [hx] at h; rw [this]; simpa using h
      | some y =>
        have hlt := (List.getElem?_eq_some_iff.1 hx).1
        obtain ⟨x, hxx⟩ : ∃ x, ts.toList[d]? = some x := ⟨_, List.getElem?_eq_getElem (by omega)⟩
        have hv := hf.at_ d x y hxx hx
        rw [← Array.getElem?_toList, hxx]
        rw [hx] at h
        cases hv <;> simp_all

/-! ### No loops -/
def killL (σ : St) : St := σ.map fun o => match o with | .loop _ => .dead | o => o

theorem killL_rd {b o n : Nat} : rdCells (killL σ) b o n = rdCells σ b o n := by
  unfold rdCells killL
  rw [List.getElem?_map]
  cases h : σ[b]? with
  | none => rfl
  | some x => cases x <;> rfl
theorem killL_load {t : TypeId} {a : V} : loadV P (killL σ) t a = loadV P σ t a := by
  unfold loadV
  have : ∀ n, readN (killL σ) n a = readN σ n a := fun n => by cases a <;> simp [readN, killL_rd]
  simp only [this]
theorem killL_results {fn : Func} {fr : Fr} : resultsV P fn fr (killL σ) = resultsV P fn fr σ := by
  unfold resultsV
  have : ∀ rs, resultsL P fr (killL σ) rs = resultsL P fr σ rs := fun rs => by
    induction rs with
    | nil => rfl
    | cons r rs ih =>
      unfold resultsL
      rw [ih]
      have : resultV P fr (killL σ) r = resultV P fr σ r := by cases r <;> simp [resultV, killL_load]
      rw [this]
  rw [this]

theorem Sim.noLoops (hs : Sim P G base σ w) : Sim P (Ev.side G (fun _ => False) G.ld) base (killL σ) w := by
  have back : ∀ (b : Nat) o, (killL σ)[b]? = some o → o = .dead ∨ (σ[b]? = some o ∧ ∀ r, o ≠ .loop r) := by
    intro b o h
    unfold killL at h
    rw [List.getElem?_map] at h
    cases hb : σ[b]? with
    | none => rw [hb] at h; cases h
    | some x =>
      rw [hb] at h
      cases x <;> simp at h <;> subst h <;> simp
  have hk : Sim P G base (killL σ) w := by
    refine ⟨hs.rom, fun b o h => ?_, fun b g h => by simpa [killL] using hs.mulen b g h, fun t n p h => by simpa [killL] using hs.tklen t n p h, fun b o b' o' g h h' hb hb' => ?_, fun b o g h hb => ?_, hs.res, hs.big⟩
    · rcases back b o h with rfl | ⟨h1, h2⟩
      · trivial
      · exact hs.obj b o h1
    · rcases back b o h with rfl | ⟨h1, h2⟩
      · exact hb.elim
      · rcases back b' o' h' with rfl | ⟨h1', h2'⟩
        · exact hb'.elim
        · exact hs.uniq b o b' o' g h1 h1' hb hb'
    · rcases back b o h with rfl | ⟨h1, h2⟩
      · exact hb.elim
      · exact hs.above b o g h1 hb
  refine hk.side (fun r h => h.elim) fun b r g l h => ?_
  rcases back b _ h with h | ⟨_, h⟩
  · cases h
  · exact absurd rfl (h r)

/-! ### A function's end -/
theorem fn_ends {c : Code} {e : Ex} {fr : Fr} {v : V} {g : FuncId} {fn : Func} {G0 : Mm} {m : Bool} (hf : P.funcs[g]? = some fn) (hb : fn.body = some c) {args : Array Value} {vs : List V}
    (hc : CodeOK P base g none c (vs ++ List.replicate (fn.ntmps - vs.length) V.undef) σ e fr σ') (he : e = .normal ∨ e = .ret) (hv : resultsV P fn fr σ' = some v) (hn : NoNewLoops σ (fin P m σ σ' v).2)
    (hs : Sim P G0 base σ w) (ha : LR G0 args.toList vs) (cs : List Frame) :
    ∃ fr' w' v' H, Steps P (lone (Frame.enter P g args .normal) cs w) (lone fr' cs w') ∧ fr'.fn = g ∧ fr'.leaving P w' (.returned v') ∧ G0.LE H ∧ Sim P H base (fin P m σ σ' v).2 w' ∧ VR H v' (fin P m σ σ' v).1 ∧ Below base w w' := by
  have hsz : args.size = vs.length := by have := ha.len; simpa using this
  have h0 : LR G0 (Frame.enter P g args .normal).tmps.toList (vs ++ List.replicate (fn.ntmps - vs.length) V.undef) := by
    simp only [Frame.enter, hf, Option.map_some, Option.getD_some, Array.toList_append, Array.toList_replicate, hsz]
    exact ha.append (.replicate _ VR.undef)
  have hfe : Frame.enter P g args .normal = fra (Frame.enter P g args .normal) (Frame.enter P g args .normal).tmps [.code c] (marks []) := by
    simp [Frame.enter, fra, hf, hb, marks]
  obtain ⟨G1, w1, ts1, rs, hle, hs1, hl1, hm, -, hbl, harr⟩ := hc G0 w (Frame.enter P g args .normal).tmps (Frame.enter P g args .normal) [] cs [] w.heap.size (.code c) hs h0 rfl rfl ⟨List.nodup_nil, by simp⟩ (Nat.le_refl _) (.inl rfl)
  rw [← hfe] at harr
  obtain ⟨kk, hst⟩ : ∃ kk, Steps P (lone (Frame.enter P g args .normal) cs w) (lone (frr (Frame.enter P g args .normal) ts1 kk (marks rs)) cs w1) := by
    rcases he with rfl | rfl
    · exact ⟨[], Steps.trans harr (.one (st_end rfl))⟩
    · obtain ⟨kk, h⟩ := harr
      exact ⟨_, Steps.trans h (.one (st_ret rfl))⟩
  have hd : ∀ r ∈ rs, w1.heap[r]? = some (.deferred (some [])) := fun r hr => (hs1.res r (hm.2 r hr).1).1
  have hst2 := Steps.trans hst (steps_unwind (b := Frame.enter P g args .normal) (ts := ts1) (k := kk) (cs := cs) rs w1 hd hm.1)
  have hge : ∀ r ∈ rs, base ≤ r := fun r hr => Nat.le_trans hs.big (hm.2 r hr).2
  have hsk := shut_sound rs w1 hd hm.1 (fun r hr => ⟨fun h => h, hge r hr⟩) hs1.noLoops
  obtain ⟨v', hr, hvr⟩ := results_sound hsk hl1.side (killL_results.trans hv)
  have hvr1 : VR G1 v' v := hvr.side (R := G1.res) (L := G1.ld)
  obtain ⟨H, hH1, hH2, hH3, hH4⟩ := fin_sound (raw := m) hs hs1 hle hvr1 hn
  refine ⟨_, shut w1 rs, v', H, hst2, rfl, ⟨rfl, rfl, rfl, fn, hf, hr⟩, hH1, ?_, hH3, hbl.trans (shut_below rs w1 hge)⟩
  refine shut_sound rs w1 hd hm.1 (fun r hr => ⟨fun h => ?_, hge r hr⟩) hH2
  rw [hH4] at h
  have h1 := (hs.res r h).1
  have h2 := (hm.2 r hr).2
  rw [Array.getElem?_eq_none (by omega)] at h1
  cases h1

/-! ### A round's parameters -/
theorem params_sound : ∀ (ps : List Tmp) (as : List Value) (bs : List V) (ts : Array Value) (fr : Fr), LR G ts.toList fr → LR G as bs →
    LR G ((ps.zip as).foldl (fun (t : Array Value) (x : Tmp × Value) => t.setIfInBounds x.1 x.2) ts).toList (setParams fr ps bs)
  | [], as, bs, ts, fr, h, _ => by simpa [setParams] using h
  | p :: ps, [], [], ts, fr, h, _ => by simpa [setParams] using h
  | p :: ps, a :: as, b :: bs, ts, fr, h, h' => by
    simp only [List.zip_cons_cons, List.foldl_cons, setParams]
    exact params_sound ps as bs _ _ (by simpa using h.set p h'.head) h'.tail
  | p :: ps, [], _ :: _, ts, fr, h, h' => by have := h'.len; simp at this
  | p :: ps, _ :: _, [], ts, fr, h, h' => by have := h'.len; simp at this
end
end Go.Ev

set_option linter.unusedSimpArgs false
set_option linter.unusedVariables false
set_option maxHeartbeats 2000000
namespace Go.Ev
open Go.RowKit

section
variable {P : Program} {G G' : Mm} {base : Nat} {σ σ' : St} {w w' : World} {b : Frame} {ts : Array Value} {k : List Item} {cs : List Frame} {ds : List Deferred}

theorem code_skip {f rd fr} (c : Code) (hc : c = .skip ∨ ∃ l, c = .label l) : CodeOK P base f rd c fr σ .normal fr σ := by
  intro G w ts b k cs rs lo it hs hf hb hrd hm hlo hit
  rcases hc with rfl | ⟨l, rfl⟩
  · rw [hit.of (by intro _ h; cases h)]
    exact ⟨G, w, ts, rs, .refl _, hs, hf, hm, fun _ => rfl, .refl _ _, .one st_skip⟩
  · rw [hit.of (by intro _ h; cases h)]
    exact ⟨G, w, ts, rs, .refl _, hs, hf, hm, fun _ => rfl, .refl _ _, .one st_label⟩

theorem code_region {f rd id os fr fr'} (h : OpsOK P base os (List.range os.size) fr σ fr' σ') : CodeOK P base f rd (.region id os false) fr σ .normal fr' σ' := by
  intro G w ts b k cs rs lo it hs hf hb hrd hm hlo hit
  rw [hit.of (by intro _ h; cases h)]
  obtain ⟨G', w', ts', hle, hs', hf', hbl, hst⟩ := h G w ts b k cs (marks rs) hs hf
  exact ⟨G', w', ts', rs, hle, hs', hf', hm.mono hle, fun _ => rfl, hbl, .head st_region (hst.trans (.one st_region_end))⟩

theorem code_regionD {f rd id os fr fr'} (h : ∀ t, OpsOK P base os (Region.schedule (P.follows .mixedOrders) os t) fr σ fr' σ') : CodeOK P base f rd (.region id os true) fr σ .normal fr' σ' := by
  intro G w ts b k cs rs lo it hs hf hb hrd hm hlo hit
  rw [hit.of (by intro _ h; cases h)]
  obtain ⟨G', w', ts', hle, hs', hf', hbl, hst⟩ := h (w.tape w.drawn (.order b.fn id)) G { w with drawn := w.drawn + 1 } ts b k cs (marks rs) (hs.heap rfl) hf
  refine ⟨G', w', ts', rs, hle, hs', hf', hm.mono hle, fun _ => rfl, ⟨hbl.os, hbl.tape, hbl.output, hbl.size, hbl.block⟩, .head st_region_draw (hst.trans (.one st_region_end))⟩

theorem code_seqN {f rd x y fr fr' fr'' σ'' e} (h1 : CodeOK P base f rd x fr σ .normal fr' σ') (h2 : CodeOK P base f rd y fr' σ' e fr'' σ'') : CodeOK P base f rd (.seq x y) fr σ e fr'' σ'' := by
  intro G w ts b k cs rs lo it hs hf hb hrd hm hlo hit
  rw [hit.of (by intro _ h; cases h)]
  obtain ⟨G1, w1, ts1, rs1, hle1, hs1, hf1, hm1, hr1, hb1, ha1⟩ := h1 G w ts b (.code y :: k) cs rs lo _ hs hf hb hrd hm hlo (.inl rfl)
  obtain ⟨G2, w2, ts2, rs2, hle2, hs2, hf2, hm2, hr2, hb2, ha2⟩ := h2 G1 w1 ts1 b k cs rs1 lo _ hs1 hf1 hb (hrd.mono hle1) hm1 (Nat.le_trans hlo hb1.size) (.inl rfl)
  exact ⟨G2, w2, ts2, rs2, hle1.trans hle2, hs2, hf2, hm2, fun h => (hr2 h).trans (hr1 h), hb1.trans hb2, ha2.of (.head st_seq ha1)⟩

theorem code_seqX {f rd x y fr fr' e} (h1 : CodeOK P base f rd x fr σ e fr' σ') (he : e ≠ .normal) : CodeOK P base f rd (.seq x y) fr σ e fr' σ' := by
  intro G w ts b k cs rs lo it hs hf hb hrd hm hlo hit
  rw [hit.of (by intro _ h; cases h)]
  obtain ⟨G1, w1, ts1, rs1, hle1, hs1, hf1, hm1, hr1, hb1, ha1⟩ := h1 G w ts b (.code y :: k) cs rs lo _ hs hf hb hrd hm hlo (.inl rfl)
  refine ⟨G1, w1, ts1, rs1, hle1, hs1, hf1, hm1, hr1, hb1, ?_⟩
  cases e with
  | normal => exact absurd rfl he
  | exit id => obtain ⟨kk, h1, h2⟩ := ha1; exact ⟨kk, .head st_seq h1, h2.trans rfl⟩
  | ret => obtain ⟨kk, h1⟩ := ha1; exact ⟨kk, .head st_seq h1⟩

theorem code_cond {f rd c x y fr fr' e t} (hc : evalO fr c = some (.bool t)) (h : CodeOK P base f rd (if t then x else y) fr σ e fr' σ') : CodeOK P base f rd (.cond c x y) fr σ e fr' σ' := by
  intro G w ts b k cs rs lo it hs hf hb hrd hm hlo hit
  rw [hit.of (by intro _ h; cases h)]
  have hv := VR.evalO (a := { tmps := ts, defers := marks rs }) hf hc
  have hv' : ({ tmps := ts, defers := marks rs } : Act).eval c = .bool t := by
    generalize ({ tmps := ts, defers := marks rs } : Act).eval c = u at hv
    cases hv; rfl
  obtain ⟨G1, w1, ts1, rs1, hle1, hs1, hf1, hm1, hr1, hb1, ha1⟩ := h G w ts b k cs rs lo _ hs hf hb hrd hm hlo (.inl rfl)
  exact ⟨G1, w1, ts1, rs1, hle1, hs1, hf1, hm1, hr1, hb1, ha1.of (.one (st_cond hv'))⟩

theorem code_block {f rd id c fr fr' e} (h : CodeOK P base f rd c fr σ e fr' σ') : CodeOK P base f rd (.block id c) fr σ (exIn id e) fr' σ' := by
  intro G w ts b k cs rs lo it hs hf hb hrd hm hlo hit
  rw [hit.of (by intro _ h; cases h)]
  obtain ⟨G1, w1, ts1, rs1, hle1, hs1, hf1, hm1, hr1, hb1, ha1⟩ := h G w ts b (.inBlock id :: k) cs rs lo _ hs hf hb hrd hm hlo (.inl rfl)
  refine ⟨G1, w1, ts1, rs1, hle1, hs1, hf1, hm1, hr1, hb1, ?_⟩
  cases e with
  | normal => exact .head st_block (Steps.trans ha1 (.one st_inBlock))
  | exit i =>
    obtain ⟨kk, h1, h2⟩ := ha1
    rw [show exIn id (.exit i) = if i = id then .normal else .exit i from rfl]
    by_cases hi : i = id
    · subst hi
      rw [if_pos rfl]
      have h3 : exitTo i kk = some k := by rw [h2]; simp [exitTo]
      exact .head st_block (Steps.trans h1 (.one (st_exit h3)))
    · rw [if_neg hi]
      refine ⟨kk, .head st_block h1, ?_⟩
      rw [h2, exitTo]
      have : (id == i) = false := by simpa using fun h => hi h.symm
      rw [this]; rfl
  | ret => obtain ⟨kk, h1⟩ := ha1; exact ⟨kk, .head st_block h1⟩

theorem st_entry {c : Code} {it : Item} (h : Entry (.loop c) it) : step P (lone (fra b ts (it :: k) ds) cs w) = .next (lone (fra b ts (.code c :: .inLoop c :: k) ds) cs w) := by
  rcases h with rfl | ⟨body, h, rfl⟩
  · exact st_loop
  · cases h; exact st_inLoop

theorem code_loopN {f rd c fr fr' fr'' σ'' e} (h1 : CodeOK P base f rd c fr σ .normal fr' σ') (h2 : CodeOK P base f rd (.loop c) fr' σ' e fr'' σ'') : CodeOK P base f rd (.loop c) fr σ e fr'' σ'' := by
  intro G w ts b k cs rs lo it hs hf hb hrd hm hlo hit
  obtain ⟨G1, w1, ts1, rs1, hle1, hs1, hf1, hm1, hr1, hb1, ha1⟩ := h1 G w ts b (.inLoop c :: k) cs rs lo _ hs hf hb hrd hm hlo (.inl rfl)
  obtain ⟨G2, w2, ts2, rs2, hle2, hs2, hf2, hm2, hr2, hb2, ha2⟩ := h2 G1 w1 ts1 b k cs rs1 lo (.inLoop c) hs1 hf1 hb (hrd.mono hle1) hm1 (Nat.le_trans hlo hb1.size) (.inr ⟨_, rfl, rfl⟩)
  exact ⟨G2, w2, ts2, rs2, hle1.trans hle2, hs2, hf2, hm2, fun h => (hr2 h).trans (hr1 h), hb1.trans hb2, ha2.of (.head (st_entry hit) ha1)⟩

theorem code_loopX {f rd c fr fr' e} (h1 : CodeOK P base f rd c fr σ e fr' σ') (he : e ≠ .normal) : CodeOK P base f rd (.loop c) fr σ e fr' σ' := by
  intro G w ts b k cs rs lo it hs hf hb hrd hm hlo hit
  obtain ⟨G1, w1, ts1, rs1, hle1, hs1, hf1, hm1, hr1, hb1, ha1⟩ := h1 G w ts b (.inLoop c :: k) cs rs lo _ hs hf hb hrd hm hlo (.inl rfl)
  refine ⟨G1, w1, ts1, rs1, hle1, hs1, hf1, hm1, hr1, hb1, ?_⟩
  cases e with
  | normal => exact absurd rfl he
  | exit id => obtain ⟨kk, h1, h2⟩ := ha1; exact ⟨kk, .head (st_entry hit) h1, h2.trans rfl⟩
  | ret => obtain ⟨kk, h1⟩ := ha1; exact ⟨kk, .head (st_entry hit) h1⟩

theorem code_exit {f rd fr} {id : Nat} : CodeOK P base f rd (.exit id) fr σ (.exit id) fr σ := by
  intro G w ts b k cs rs lo it hs hf hb hrd hm hlo hit
  rw [hit.of (by intro _ h; cases h)]
  exact ⟨G, w, ts, rs, .refl _, hs, hf, hm, fun _ => rfl, .refl _ _, k, .refl _ _, rfl⟩

theorem code_ret {f rd fr} : CodeOK P base f rd .ret fr σ .ret fr σ := by
  intro G w ts b k cs rs lo it hs hf hb hrd hm hlo hit
  rw [hit.of (by intro _ h; cases h)]
  exact ⟨G, w, ts, rs, .refl _, hs, hf, hm, fun _ => rfl, .refl _ _, k, .refl _ _⟩

/-! ### Operations -/
theorem ops_none {os l fr fr'} {i : Nat} (hi : os[i]? = none) (h : OpsOK P base os l fr σ fr' σ') : OpsOK P base os (i :: l) fr σ fr' σ' := by
  intro G w ts b k cs ds hs hf
  obtain ⟨G', w', ts', hle, hs', hf', hbl, hst⟩ := h G w ts b k cs ds hs hf
  refine ⟨G', w', ts', hle, hs', hf', hbl, .head ?_ hst⟩
  have := st_idle (P := P) (b := b) (ts := ts) (k := k) (cs := cs) (w := w) (ds := ds) (ops := os) (i := i) (rest := l) (by simp [hi])
  simpa [hi, putT] using this

theorem ops_idle {os l fr fr'} {i : Nat} {x : Oper} (hi : os[i]? = some x) (hw : wantedV os x fr = false) (h : OpsOK P base os l (put fr x.dst V.undef) σ fr' σ') : OpsOK P base os (i :: l) fr σ fr' σ' := by
  intro G w ts b k cs ds hs hf
  obtain ⟨G', w', ts', hle, hs', hf', hbl, hst⟩ := h G w (putT ts x.dst Go.undef) b k cs ds hs (put_sound hf _ VR.undef)
  refine ⟨G', w', ts', hle, hs', hf', hbl, .head ?_ hst⟩
  have := st_idle (P := P) (b := b) (ts := ts) (k := k) (cs := cs) (w := w) (ds := ds) (ops := os) (i := i) (rest := l) (by simp [hi, yielded_of hf hw])
  simpa [hi] using this

theorem VR.resv {n : Nat} {a : Value} {v v' : V} (h : VR G a v) (hr : resv n v = some v') : VR G a v' := by
  unfold Ev.resv at hr
  split at hr
  · cases hr; cases h; exact .nilsl _
  · cases hr
    cases h with
    | sl _ _ _ k _ _ f hk h hv hc ht => exact .sl _ _ _ k _ _ f hk h hv hc ht
  · cases hr

theorem ops_ghost {os l fr fr'} {d e : Nat} {v : V} (hv : resv σ.length (get fr d) = some v) (h : OpsOK P base os l (fr.set d v) (σ ++ [.tok e 0]) fr' σ') : OpsOK P base os l fr σ fr' σ' := by
  intro G w ts b k cs ds hs hf
  refine h G w ts b k cs ds (hs.pushTok0 e) ⟨by simp [hf.len], fun i x y hx hy => ?_⟩
  by_cases hi : d = i
  · subst hi
    have hlt : d < fr.length := by have := (List.getElem?_eq_some_iff.1 hy).1; simpa using this
    rw [List.getElem?_set_self hlt] at hy
    cases hy
    have hg : fr[d]? = some (get fr d) := by simp [get, List.getD_eq_getElem?_getD, hlt]
    exact (hf.at_ d x _ hx hg).resv hv
  · rw [List.getElem?_set_ne hi] at hy
    exact hf.at_ i x y hx hy

theorem ops_ghostA {os l fr fr'} {d e j : Nat} {cs : List V} {v0 v : V} (hd : get fr d = .agg cs) (hj : cs[j]? = some v0) (hv : resv σ.length v0 = some v) (h : OpsOK P base os l (fr.set d (.agg (cs.set j v))) (σ ++ [.tok e 0]) fr' σ') : OpsOK P base os l fr σ fr' σ' := by
  intro G w ts b k cs0 ds hs hf
  refine h G w ts b k cs0 ds (hs.pushTok0 e) ⟨by simp [hf.len], fun i x y hx hy => ?_⟩
  by_cases hi : d = i
  · subst hi
    have hlt : d < fr.length := by have := (List.getElem?_eq_some_iff.1 hy).1; simpa using this
    rw [List.getElem?_set_self hlt] at hy
    cases hy
    have hg : fr[d]? = some (get fr d) := by simp [get, List.getD_eq_getElem?_getD, hlt]
    have hvr := hf.at_ d x _ hx hg
    rw [hd] at hvr
    cases hvr with
    | agg cs' _ hl hh =>
      refine .agg cs' _ (by simp [hl]) fun n a b' ha hb => ?_
      by_cases hn : j = n
      · subst hn
        rw [List.getElem?_set_self (List.getElem?_eq_some_iff.1 hj).1] at hb
        cases hb
        exact (hh j a _ ha hj).resv hv
      · rw [List.getElem?_set_ne hn] at hb
        exact hh n a b' ha hb
  · rw [List.getElem?_set_ne hi] at hy
    exact hf.at_ i x y hx hy

theorem opV_defer {own : Bool} {fr : Fr} {c : Call} : opV P own fr σ (.defer c) = none := by simp [opV]

theorem ops_op {os l fr fr' σ'' v} {own : Bool} {i : Nat} {x : Oper} (hi : os[i]? = some x) (hw : wantedV os x fr = true) (hv : opV P own fr σ x.op = some (v, σ'))
    (h : OpsOK P base os l (put fr x.dst v) σ' fr' σ'') : OpsOK P base os (i :: l) fr σ fr' σ'' := by
  intro G w ts b k cs ds hs hf
  obtain ⟨r, w1, v1, G1, hr, hy, hle1, hs1, hv1, hb1⟩ := opV_sound (a := { tmps := ts, defers := ds }) hs hf hv
  have hd : ∀ c, x.op ≠ .defer c := fun c e => by rw [e, opV_defer] at hv; cases hv
  obtain ⟨G', w', ts', hle, hs', hf', hbl, hst⟩ := h G1 w1 (putT ts x.dst v1) b k cs ds hs1 (put_sound (hf.mono hle1) _ hv1)
  refine ⟨G', w', ts', hle1.trans hle, hs', hf', hb1.trans hbl, Steps.trans ?_ hst⟩
  cases hy with
  | value v => exact op_goes hi (yielded_of hf hw) hd hr ⟨rfl, rfl⟩
  | skip => exact op_skips hi (yielded_of hf hw) hd hr

theorem ops_call {os l fr fr' σ'' v} {i : Nat} {x : Oper} {fx : Operand} {args : Array Operand} {tys : Array TypeId} {fv : V} {vs : List V} (hi : os[i]? = some x) (hw : wantedV os x fr = true)
    (hx : x.op = .call { callee := .value fx, args := args, argTypes := tys }) (hfv : evalO fr fx = some fv) (hvs : evalL fr args.toList = some vs) (ha : AppOK P base fv vs σ v σ')
    (h : OpsOK P base os l (put fr x.dst v) σ' fr' σ'') : OpsOK P base os (i :: l) fr σ fr' σ'' := by
  intro G w ts b k cs ds hs hf
  have h1 := VR.evalO (a := { tmps := ts, defers := ds }) hf hfv
  have h2 := LR.evalL (a := { tmps := ts, defers := ds }) hf hvs
  obtain ⟨r, w1, v1, w2, G1, hr, hg, hle1, hs1, hv1, hb1⟩ := ha G w _ (args.map (({ tmps := ts, defers := ds } : Act).eval)) hs h1 (by simpa using h2) (fra b ts (.inRegion os (i :: l) :: k) ds) cs
  have hd : ∀ c, x.op ≠ .defer c := fun c e => by rw [hx] at e; cases e
  obtain ⟨G', w', ts', hle, hs', hf', hbl, hst⟩ := h G1 w2 (putT ts x.dst v1) b k cs ds hs1 (put_sound (hf.mono hle1) _ hv1)
  refine ⟨G', w', ts', hle1.trans hle, hs', hf', hb1.trans hbl, Steps.trans ?_ hst⟩
  refine op_goes hi (yielded_of hf hw) hd (r := r) (w1 := w1) ?_ hg
  rw [← hr]
  simp only [execOp, hx, resolve, begins]

/-! ### Calls -/
theorem app_fn {g : FuncId} {fn : Func} {c : Code} {e : Ex} {fr : Fr} {v : V} {m : Bool} {first cap args : List V} (hf : P.funcs[g]? = some fn) (hb : fn.body = some c) (hname : (fn.name == "runtime.NumGoroutine") = false)
    (hc : CodeOK P base g none c ((first ++ args ++ cap) ++ List.replicate (fn.ntmps - (first ++ args ++ cap).length) V.undef) σ e fr σ') (he : e = .normal ∨ e = .ret) (hv : resultsV P fn fr σ' = some v) (hn : NoNewLoops σ (fin P m σ σ' v).2) :
    AppOK P base (.func (.func g) first cap) args σ (fin P m σ σ' v).1 (fin P m σ σ' v).2 := by
  intro G w fv' args' hs hfv ha fr0 cs
  cases hfv with
  | func _ a c' _ _ hfl hl h hl' h' =>
    have hall : LR G (a ++ args' ++ c').toList (first ++ args ++ cap) := by
      simp only [Array.toList_append]
      exact (LR.append ⟨hl, h⟩ ha).append ⟨hl', h'⟩
    obtain ⟨fr', w', v', H, hst, hfn, hlv, hle, hs', hv', hbl⟩ := fn_ends hf hb hc he hv hn hs hall (fr0 :: cs)
    refine ⟨.enter g (a ++ args' ++ c'), w, v', w', H, ?_, ?_, hle, hs', hv', hbl⟩
    · have h1 : fn.name ≠ "runtime.NumGoroutine" := by simpa using hname
      simp [begins, Deferred.ofValue, invoke, callFunc, program, Sem.run, hf, h1, hb, Result.andThen]
    · exact Steps.trans hst (.one (step_leave_returned hlv))

theorem app_prim {g : FuncId} {v : V} {first cap args : List V} {C : Cfg} (hC : CfgOK C base) (hg : C.isPrim g = true) (hp : C.prim g (first ++ args ++ cap) σ = some (v, σ')) :
    AppOK C.P base (.func (.func g) first cap) args σ v σ' := by
  intro G w fv' args' hs hfv ha fr0 cs
  cases hfv with
  | func _ a c' _ _ hfl hl h hl' h' =>
    have hall : LR G (a ++ args' ++ c').toList (first ++ args ++ cap) := by
      simp only [Array.toList_append]
      exact (LR.append ⟨hl, h⟩ ha).append ⟨hl', h'⟩
    obtain ⟨r, w1, v', w', G', hr, h2⟩ := hC hg hp G w _ hs hall fr0 cs
    refine ⟨r, w1, v', w', G', ?_, h2⟩
    rw [← hr]
    simp [begins, Deferred.ofValue, invoke]
end
end Go.Ev

set_option linter.unusedSimpArgs false
set_option linter.unusedVariables false
set_option maxHeartbeats 2000000
namespace Go.Ev
open Go.RowKit

section
variable {P : Program} {G G' : Mm} {base : Nat} {σ σ' : St} {w w' : World} {b : Frame} {ts : Array Value} {k : List Item} {cs : List Frame} {ds : List Deferred}

theorem app_yield {l : Nat} {args : List V} {r r1 r2 : ALoop} {fr fr' : Fr} {e : Ex} {σ1 σ2 : St} (h0 : σ[l]? = some (.loop r)) (hsz : args.length = r.params.size)
    (hA : CodeOK P base r.fn (some l) r.assign (setParams r.tmps r.params.toList args) σ .normal fr σ1) (h1 : σ1[l]? = some (.loop r1)) (hr1 : r1.state = .ready)
    (hB : CodeOK P base r.fn (some l) r.body fr (σ1.set l (.loop { r1 with state := .busy })) e fr' σ2) (h2 : σ2[l]? = some (.loop r2)) :
    AppOK P base (.yield l) args σ (.bool (jumpOf e).isNone) (σ2.set l (.loop { r2 with state := (if (jumpOf e).isNone then .ready else .done), pending := jumpOf e })) := by
  intro G w fv' args' hs hfv ha fr0 cs
  cases hfv with
  | yield g _ hg =>
    obtain ⟨g', L, hm, hh, a1, a2, a3, a4, a5, a6, a7, a8, a9⟩ := hs.loopAt h0
    rw [hg] at hm; cases hm
    have hsz' : args'.size = L.params.size := by have := ha.len; simp at this; rw [a5]; omega
    have hy := run_yield (P := P) hh hsz'
    obtain ⟨tm, htm⟩ : ∃ tm, (L.params.zip args').foldl (fun tmps (x : Tmp × Value) => tmps.setIfInBounds x.1 x.2) L.tmps = tm := ⟨_, rfl⟩
    have hlt : LR G tm.toList (setParams r.tmps r.params.toList args) := by
      have := params_sound L.params.toList args'.toList args L.tmps r.tmps a4 ha
      rw [← htm, ← a5, ← Array.foldl_toList, Array.toList_zip]
      exact this
    have hy' : (Instr.yield g args').run P w = .ok (.round g L.fn tm L.assign L.body) w := by rw [hy]; rw [← htm]
    have hfe : Frame.round g L.fn tm L.assign L.body .normal = fra (Frame.round g L.fn tm L.assign L.body .normal) tm [.code L.assign, .beginRound, .code L.body] (marks []) := by
      simp [Frame.round, fra, marks]
    rw [a6, a7] at hfe
    obtain ⟨G1, w1, ts1, rs1, hle1, hs1, hf1, -, hrs1, hb1, ha1⟩ := hA G w tm (Frame.round g L.fn tm r.assign r.body .normal) [.beginRound, .code r.body] (fr0 :: cs) [] 0 _ hs hlt a3 ⟨g, rfl, hg⟩ ⟨List.nodup_nil, by simp⟩ (Nat.zero_le _) (.inl rfl)
    cases hrs1 rfl
    obtain ⟨g1, L1, hm1, hh1, c1, c2, c3, c4, c5, c6, c7, c8, c9⟩ := hs1.loopAt h1
    have hg1 := hle1.mu _ _ hg
    rw [hm1] at hg1; cases hg1
    have hbr := st_beginRound (P := P) (b := Frame.round g L.fn tm r.assign r.body .normal) (ts := ts1) (k := [.code r.body]) (cs := fr0 :: cs) (ds := marks []) (g := g) rfl hh1 (c1.trans hr1)
    have hs1' := hs1.turnLoop h1 hm1 hh1 .busy r1.pending
    have hpe : ({ L1 with state := .busy, pending := r1.pending } : Loop) = { L1 with state := .busy } := by rw [← c2]
    rw [hpe] at hs1'
    obtain ⟨G2, w2, ts2, rs2, hle2, hs2, hf2, -, hrs2, hb2, ha2⟩ := hB G1 _ ts1 (Frame.round g L.fn tm r.assign r.body .normal) [] (fr0 :: cs) [] 0 _ hs1' hf1 a3 ⟨g, rfl, hm1⟩ ⟨List.nodup_nil, by simp⟩ (Nat.zero_le _) (.inl rfl)
    cases hrs2 rfl
    obtain ⟨g2, L2, hm2, hh2, d1, d2, d3, d4, d5, d6, d7, d8, d9⟩ := hs2.loopAt h2
    have hg2 := hle2.mu _ _ hm1
    rw [hm2] at hg2; cases hg2
    have hend : ∃ todo, Steps P (lone (fra (Frame.round g L.fn tm r.assign r.body .normal) ts1 [.code r.body] (marks [])) (fr0 :: cs) (setBlk w1 g (.loop { L1 with state := .busy })))
        (lone (fra (Frame.round g L.fn tm r.assign r.body .normal) ts2 todo (marks [])) (fr0 :: cs) w2) ∧
        ((todo = [] ∧ jumpOf e = none) ∨ (∃ k, todo = .code .ret :: k ∧ jumpOf e = some .ret) ∨ (∃ id k, todo = .code (.exit id) :: k ∧ exitTo id k = none ∧ jumpOf e = some (.exit id))) := by
      cases e with
      | normal => exact ⟨[], ha2, .inl ⟨rfl, rfl⟩⟩
      | ret => obtain ⟨kk, h⟩ := ha2; exact ⟨_, h, .inr (.inl ⟨kk, rfl, rfl⟩)⟩
      | exit id => obtain ⟨kk, h, h'⟩ := ha2; exact ⟨_, h, .inr (.inr ⟨id, kk, rfl, h', rfl⟩)⟩
    obtain ⟨todo, hst, htodo⟩ := hend
    have hlv := st_leave_round (P := P) (b := Frame.round g L.fn tm r.assign r.body .normal) (ts := ts2) (cs := cs) (ds := marks []) (c := fr0) (g := g) (j := jumpOf e) rfl rfl hh2 htodo
    refine ⟨.round g L.fn tm L.assign L.body, w, .bool (jumpOf e).isNone, _, G2, ?_, ?_, hle1.trans hle2, hs2.turnLoop h2 hm2 hh2 _ _, .bool _, (hb1.trans (setBlk_below w1 g _ (hs1.above l _ g h1 hm1))).trans (hb2.trans (setBlk_below w2 g _ (hs2.above l _ g h2 hm2)))⟩
    · rw [← hy']; simp [begins, Deferred.ofValue, invoke]
    · show Steps P (lone (Frame.round g L.fn tm L.assign L.body .normal) (fr0 :: cs) w) _
      rw [a6, a7, hfe]
      exact Steps.trans ha1 (.head hbr (Steps.trans hst (.one hlv)))

/-- A loop over an iterator is entered. -/
theorem enter_sound {f : FuncId} {m : Bool} {rd : Option Nat} {ps : Array Tmp} {assign body : Code} {fr : Fr} {rs : List Nat} {lo : Nat} (hs : Sim P G base σ w) (hld : G.ld σ.length = none) (hf : LR G ts.toList fr) (hrd : RdOK G b.roundOf rd)
    (hl : ∀ l, rd = some l → ∃ r0, σ[l]? = some (.loop r0)) (hm : Marks G lo rs) (hlo : lo ≤ w.heap.size) (hb : b.fn = f) :
    ∃ g mk w1 G1, (Instr.enterLoop b.fn ts ps assign body b.roundOf).run P w = .ok (g, marks mk) w1 ∧ G.LE G1 ∧
      Sim P G1 base (σ ++ [.loop { state := .ready, pending := none, fn := f, raw := m, tmps := fr, params := ps, assign := assign, body := body }]) w1 ∧ G1.mu σ.length = some g ∧
      Marks G1 lo (mk ++ rs) ∧ (rd.isSome = true → mk = []) ∧ Below base w w1 := by
  cases rd with
  | none =>
    have hro : b.roundOf = none := hrd
    rw [hro, run_enterLoop_outer]
    have hs1 := hs.pushRes
    have hsz : (w.alloc (.deferred (some []))).heap.size = w.heap.size + 1 := by simp
    obtain ⟨hle, hs2⟩ := hs1.pushLoop (l := { state := .ready, pending := none, fn := b.fn, tmps := ts, params := ps, assign, body, defers := w.heap.size })
      (r := { state := .ready, pending := none, fn := f, raw := m, tmps := fr, params := ps, assign := assign, body := body }) hld (.inr rfl) rfl ⟨rfl, rfl, hb, hf.mono addRes_le, rfl, rfl, rfl⟩
    rw [hsz] at hle hs2
    refine ⟨w.heap.size + 1, [w.heap.size], _, _, rfl, addRes_le.trans hle, hs2, by simp [addLoop, addMu], ⟨?_, ?_⟩, by simp, ?_⟩
    · show (w.heap.size :: rs).Nodup
      refine List.nodup_cons.2 ⟨fun h => ?_, hm.1⟩
      have := (hs.res _ (hm.2 _ h).1).1
      rw [Array.getElem?_eq_none (Nat.le_refl _)] at this; cases this
    · intro r hr
      have hr : r = w.heap.size ∨ r ∈ rs := by simpa using hr
      rcases hr with rfl | hr
      · exact ⟨hle.res _ (.inr rfl), hlo⟩
      · exact ⟨hle.res _ (.inl (hm.2 r hr).1), (hm.2 r hr).2⟩
    · exact (pushW_below w _ hs.big).trans (pushW_below _ _ (by have := hs.big; simp; omega))
  | some l =>
    obtain ⟨g, hro, hg⟩ := hrd
    obtain ⟨r0, h0⟩ := hl l rfl
    obtain ⟨g', L, hm', hh, a1, a2, a3, a4, a5, a6, a7, a8, a9⟩ := hs.loopAt h0
    rw [hg] at hm'; cases hm'
    have hrun : (Instr.enterLoop b.fn ts ps assign body b.roundOf).run P w = .ok (w.heap.size, []) (w.alloc (.loop { state := .ready, pending := none, fn := b.fn, tmps := ts, params := ps, assign, body, defers := L.defers })) := by
      rw [hro]
      unfold Instr.enterLoop
      simp only [Sem.run_bind, run_getLoop hh, run_newObj_alloc, Result.andThen, Sem.run_pure]
    obtain ⟨hle, hs2⟩ := hs.pushLoop (l := { state := .ready, pending := none, fn := b.fn, tmps := ts, params := ps, assign, body, defers := L.defers })
      (r := { state := .ready, pending := none, fn := f, raw := m, tmps := fr, params := ps, assign := assign, body := body }) hld a8 rfl ⟨rfl, rfl, hb, hf, rfl, rfl, rfl⟩
    exact ⟨w.heap.size, [], _, _, hrun, hle, hs2, by simp [addLoop, addMu], hm.mono hle, fun _ => rfl, pushW_below w _ hs.big⟩

theorem code_rangeFunc {f : FuncId} {m : Bool} {rd : Option Nat} {x : Operand} {ps : Array Tmp} {assign body : Code} {fr : Fr} {fv v : V} {r : ALoop} {e : Ex} (hx : evalO fr x = some fv) (hl : ∀ l, rd = some l → ∃ r0, σ[l]? = some (.loop r0))
    (ha : AppOK P base fv [.yield σ.length] (σ ++ [.loop { state := .ready, pending := none, fn := f, raw := m, tmps := fr, params := ps, assign := assign, body := body }]) v σ')
    (hr : σ'[σ.length]? = some (.loop r)) (hb : r.state ≠ .busy) (he : exOf r.pending = some e) (hn : NoNewLoops σ (dropLoop σ (σ'.set σ.length .dead))) :
    CodeOK P base f rd (.rangeFunc x ps assign body) fr σ e fr (dropLoop σ (σ'.set σ.length .dead)) := by
  intro G w ts b k cs rs lo it hs hf hbf hrd hm hlo hit
  rw [hit.of (by intro _ h; cases h)]
  obtain ⟨G0, hG0⟩ : ∃ G0, side G G.res (fun y => if y < σ.length then G.ld y else none) = G0 := ⟨_, rfl⟩
  have hs0 : Sim P G0 base σ w := by
    rw [← hG0]
    refine hs.side hs.res fun y r g l h1 h2 h3 h4 => ⟨h3, ?_⟩
    rw [if_pos (List.getElem?_eq_some_iff.1 h1).1]; exact h4
  have hld : G0.ld σ.length = none := by rw [← hG0]; exact if_neg (Nat.lt_irrefl _)
  have hf0 : LR G0 ts.toList fr := hG0 ▸ hf.side
  have hm0 : Marks G0 lo rs := hG0 ▸ hm
  have hrd0 : RdOK G0 b.roundOf rd := by subst hG0; cases rd <;> exact hrd
  obtain ⟨g, mk, w1, G1, hen, hle1, hs1, hmu1, hm1, hmk, hb1⟩ := enter_sound (m := m) (ps := ps) (assign := assign) (body := body) hs0 hld hf0 hrd0 hl hm0 hlo hbf
  have hv := VR.evalO (a := { tmps := ts, defers := marks rs }) hf0 hx
  obtain ⟨rn, w2, v', w3, G3, hrun, hgo, hle3, hs3, hv3, hb3⟩ := ha G1 w1 _ #[.func (.yield g) #[] #[]] hs1 (hv.mono hle1) (LR.one (.yield g _ hmu1)) (fra b ts (.inRangeFunc g :: k) (marks mk ++ marks rs)) cs
  have hst := rangeFunc_goes hen rfl hrun hgo
  obtain ⟨g', L, hm', hh, a1, a2, a3, a4, a5, a6, a7, a8, a9⟩ := hs3.loopAt hr
  have hmu3 := hle3.mu _ _ hmu1
  rw [hm'] at hmu3; cases hmu3
  have hend := st_endRangeFunc (P := P) (b := b) (ts := ts) (k := k) (cs := cs) (ds := marks mk ++ marks rs) hh (by rw [a1]; exact hb)
  have hs4 := (hs3.turnLoop hr hm' hh .exhausted L.pending).kill σ.length
  rw [List.set_set, show ({ L with state := .exhausted, pending := L.pending } : Loop) = { L with state := .exhausted } from rfl] at hs4
  obtain ⟨G4, hle4, hs5, hR4⟩ : ∃ G4, G0.LE G4 ∧ Sim P G4 base (dropLoop σ (σ'.set σ.length .dead)) (setBlk w3 g (.loop { L with state := .exhausted })) ∧ ∀ q, G3.res q → G4.res q := by
    unfold dropLoop
    split
    · rename_i hold
      obtain ⟨h1, h2⟩ := hs0.restrict hs4 (hle1.trans hle3) hold (R := G3.res) (fun _ h => h) (fun q h => (hle1.trans hle3).res q h)
      exact ⟨_, h1, h2, fun _ h => h⟩
    · exact ⟨G3, hle1.trans hle3, hs4, fun _ h => h⟩
  have hs6 := hs5.side (R := G4.res) (L := G.ld) hs5.res fun y ry gy ly h1 h2 h3 h4 => by
    obtain ⟨r0, hr0⟩ := hn y ry h1
    obtain ⟨d, hd1, -⟩ := hs0.loopLd hr0
    have hd2 := hle4.ld _ _ hd1
    rw [h4] at hd2
    have hd3 : G.ld y = some d := by
      rw [← hG0] at hd1
      have hd1' : (if y < σ.length then G.ld y else none) = some d := hd1
      rwa [if_pos (List.getElem?_eq_some_iff.1 hr0).1] at hd1'
    exact ⟨h3, by rw [hd3, hd2]⟩
  have hle6 : G.LE (side G4 G4.res G.ld) := by
    subst hG0
    exact ⟨hle4.rom, hle4.mu, hle4.tk, hle4.res, fun _ _ h => h⟩
  refine ⟨_, _, ts, mk ++ rs, hle6, hs6, hf.mono hle6, ⟨hm1.1, fun q hq => ⟨hR4 q (hle3.res q (hm1.2 q hq).1), (hm1.2 q hq).2⟩⟩, fun h => by rw [hmk h]; rfl, hb1.trans (hb3.trans (setBlk_below w3 g _ (hs3.above _ _ g hr hm'))), ?_⟩
  have hmarks : marks (mk ++ rs) = marks mk ++ marks rs := by simp [marks]
  rw [hmarks]
  have hall := Steps.trans hst (.one hend)
  generalize setBlk w3 g (.loop { L with state := .exhausted }) = W at hall ⊢
  rw [a2] at hall
  cases hp : r.pending with
  | none =>
    rw [hp] at he hall
    cases he
    exact hall
  | some c =>
    rw [hp] at he hall
    cases c <;> simp [exOf] at he
    · subst he; exact ⟨k, hall, rfl⟩
    · subst he; exact ⟨k, hall⟩
end

theorem run_sound {C : Cfg} {base : Nat} (hC : CfgOK C base) {t : Task} {σ : St} {o : Out} {σ' : St} (h : Run C t σ o σ') : TaskOK C.P base t σ o σ' := by
  induction h with
  | skip => exact ⟨_, _, rfl, code_skip _ (.inl rfl)⟩
  | label => exact ⟨_, _, rfl, code_skip _ (.inr ⟨_, rfl⟩)⟩
  | region _ ih => obtain ⟨_, e, ih⟩ := ih; cases e; exact ⟨_, _, rfl, code_region ih⟩
  | regionD _ ih => exact ⟨_, _, rfl, code_regionD fun t => by obtain ⟨_, e, ih⟩ := ih t; cases e; exact ih⟩
  | seqN _ _ ih1 ih2 => obtain ⟨_, _, e, ih1⟩ := ih1; cases e; obtain ⟨_, _, rfl, ih2⟩ := ih2; exact ⟨_, _, rfl, code_seqN ih1 ih2⟩
  | seqX _ he ih => obtain ⟨_, _, e, ih⟩ := ih; cases e; exact ⟨_, _, rfl, code_seqX ih he⟩
  | cond hc _ ih => obtain ⟨_, _, rfl, ih⟩ := ih; exact ⟨_, _, rfl, code_cond hc ih⟩
  | block _ ih => obtain ⟨_, _, e, ih⟩ := ih; cases e; exact ⟨_, _, rfl, code_block ih⟩
  | loopN _ _ ih1 ih2 => obtain ⟨_, _, e, ih1⟩ := ih1; cases e; obtain ⟨_, _, rfl, ih2⟩ := ih2; exact ⟨_, _, rfl, code_loopN ih1 ih2⟩
  | loopX _ he ih => obtain ⟨_, _, e, ih⟩ := ih; cases e; exact ⟨_, _, rfl, code_loopX ih he⟩
  | exit => exact ⟨_, _, rfl, code_exit⟩
  | ret => exact ⟨_, _, rfl, code_ret⟩
  | rangeFunc hx hl _ hr hb he hn ih => obtain ⟨_, e, ih⟩ := ih; cases e; exact ⟨_, _, rfl, code_rangeFunc hx hl ih hr hb he hn⟩
  | nil => exact ⟨_, rfl, fun G w ts b k cs ds hs hf => ⟨G, w, ts, .refl _, hs, hf, .refl _ _, .refl _ _⟩⟩
  | none hi _ ih => obtain ⟨_, rfl, ih⟩ := ih; exact ⟨_, rfl, ops_none hi ih⟩
  | idle hi hw _ ih => obtain ⟨_, rfl, ih⟩ := ih; exact ⟨_, rfl, ops_idle hi hw ih⟩
  | ghost hv _ ih => obtain ⟨_, rfl, ih⟩ := ih; exact ⟨_, rfl, ops_ghost hv ih⟩
  | ghostA hd hj hv _ ih => obtain ⟨_, rfl, ih⟩ := ih; exact ⟨_, rfl, ops_ghostA hd hj hv ih⟩
  | op hi hw hv _ ih => obtain ⟨_, rfl, ih⟩ := ih; exact ⟨_, rfl, ops_op hi hw hv ih⟩
  | call hi hw hx hfv hvs _ _ ih1 ih2 => obtain ⟨_, e, ih1⟩ := ih1; cases e; obtain ⟨_, rfl, ih2⟩ := ih2; exact ⟨_, rfl, ops_call hi hw hx hfv hvs ih1 ih2⟩
  | fn hp hf hb hname _ he hv hn ih => obtain ⟨_, _, e, ih⟩ := ih; cases e; exact ⟨_, rfl, app_fn hf hb hname ih he hv hn⟩
  | prim hg hp => exact ⟨_, rfl, app_prim hC hg hp⟩
  | yield h0 hsz _ h1 hr1 _ h2 ihA ihB => obtain ⟨_, _, e, ihA⟩ := ihA; cases e; obtain ⟨_, _, e, ihB⟩ := ihB; cases e; exact ⟨_, rfl, app_yield h0 hsz ihA h1 hr1 ihB h2⟩

/-- **WHAT THE EVALUATOR SAYS OF A CALL, THE MACHINE DOES.** -/
theorem calls_of_run {C : Cfg} (hC : ∀ base, CfgOK C base) {g : FuncId} {fn : Func} {c : Code} {m : Bool} {args : List V} {σ σ' : St} {v : V} {G : Mm} {base : Nat} {w : World} (hp : C.isPrim g = false)
    (hf : C.P.funcs[g]? = some fn) (hb : fn.body = some c) (h : Run C (.app m (.func (.func g) [] []) args) σ (.val v) σ') {as : Array Value} (hs : Sim C.P G base σ w) (ha : LR G as.toList args) :
    Calls C.P g as w (fun e w' => ∃ v' H, e = .returned v' ∧ VR H v' v ∧ G.LE H ∧ Sim C.P H base σ' w' ∧ Below base w w') := by
  intro cs
  generalize ht : Task.app m (.func (.func g) [] []) args = t at h
  generalize ho : Out.val v = o at h
  cases h <;> try cases ht
  · rename_i hb' hname he hv hn hp' hf' hc
    cases ho
    obtain ⟨_, _, e, hc⟩ := run_sound (hC base) hc
    cases e
    rw [hf] at hf'; cases hf'
    rw [hb] at hb'; cases hb'
    simp only [List.nil_append, List.append_nil] at hc
    obtain ⟨fr', w', v', H, hst, hfn, hlv, hle, hs', hv', hbl⟩ := fn_ends hf hb hc he hv hn hs ha cs
    exact ⟨.returned v', w', fr', ⟨v', H, rfl, hv', hle, hs', hbl⟩, hst, hfn, hlv⟩
  · rename_i h1 h2
    rw [hp] at h1; cases h1
end Go.Ev

set_option linter.unusedSimpArgs false
set_option linter.unusedVariables false
namespace Go.Ev

abbrev Env := Nat → V
def upd (ρ : Env) (t : Nat) (v : V) : Env := fun x => bif Nat.beq x t then v else ρ x

def FrOK (n : Nat) (ρ : Env) (fr : Fr) : Prop := fr.length = n ∧ ∀ t, t < n → get fr t = ρ t

/-- Where a function runs. -/
structure Cx where
  C : Cfg
  f : FuncId
  m : Bool
  rd : Option Nat
  n : Nat
  σ0 : St
  K : List Nat
  L : List (Nat × ALoop) := []
  /-- What somebody else keeps up, and where. -/
  A : St → Prop := fun _ => True
  KA : List Nat := []

/-- What is known of the store: some objects; the rest of what was there at first is as it was, but for K. -/
structure Hp (X : Cx) (Z : List (Nat × AObj)) (σ : St) : Prop where
  at_ : ∀ p ∈ Z, σ[p.1]? = some p.2
  nd : (Z.map (·.1)).Nodup
  new : ∀ p ∈ Z, X.σ0.length ≤ p.1 ∨ p.1 ∈ X.K
  len : X.σ0.length ≤ σ.length
  old : ∀ b, b < X.σ0.length → b ∉ X.K → σ[b]? = X.σ0[b]?
  noloop : ∀ (b : Nat) r, X.σ0.length ≤ b → σ[b]? = some (.loop r) → (b, r) ∈ X.L
  lp : ∀ p ∈ X.L, σ[p.1]? = some (.loop p.2)
  inv : X.A σ
  za : ∀ p ∈ Z, p.1 ∉ X.KA
  ka : ∀ b ∈ X.KA, b < X.σ0.length
  loc : ∀ σ1 σ2 : St, (∀ b ∈ X.KA, σ2[b]? = σ1[b]?) → X.A σ1 → X.A σ2

inductive Itm where
  | code (c : Code)
  | ops (os : Array Oper) (xs : List Oper)
  | inB (id : Nat)

def dropTo (id : Nat) : List Itm → Option (List Itm)
  | .inB i :: k => bif Nat.beq i id then some k else dropTo id k
  | .code _ :: k => dropTo id k
  | .ops _ _ :: k => dropTo id k
  | [] => none

def Laid (os : Array Oper) (l : List Nat) (xs : List Oper) : Prop := l.map (fun i => os[i]?) = xs.map some

inductive RunK (C : Cfg) (f : FuncId) (m : Bool) (rd : Option Nat) : List Itm → Fr → St → Ex → Fr → St → Prop where
  | nil {fr σ} : RunK C f m rd [] fr σ .normal fr σ
  | inB {id k fr σ e fr' σ'} : RunK C f m rd k fr σ e fr' σ' → RunK C f m rd (.inB id :: k) fr σ e fr' σ'
  | codeN {c k fr σ fr1 σ1 e fr' σ'} : Run C (.code f m rd c fr) σ (.code .normal fr1) σ1 → RunK C f m rd k fr1 σ1 e fr' σ' → RunK C f m rd (.code c :: k) fr σ e fr' σ'
  | codeX {c k fr σ fr1 σ1 e fr' σ' id k'} : Run C (.code f m rd c fr) σ (.code (.exit id) fr1) σ1 → dropTo id k = some k' → RunK C f m rd k' fr1 σ1 e fr' σ' → RunK C f m rd (.code c :: k) fr σ e fr' σ'
  | codeE {c k fr σ fr1 σ1 id} : Run C (.code f m rd c fr) σ (.code (.exit id) fr1) σ1 → dropTo id k = none → RunK C f m rd (.code c :: k) fr σ (.exit id) fr1 σ1
  | codeR {c k fr σ fr1 σ1} : Run C (.code f m rd c fr) σ (.code .ret fr1) σ1 → RunK C f m rd (.code c :: k) fr σ .ret fr1 σ1
  | ops {os xs k fr σ fr1 σ1 e fr' σ'} : (∀ l, Laid os l xs → Run C (.ops f m os l fr) σ (.code .normal fr1) σ1) → RunK C f m rd k fr1 σ1 e fr' σ' → RunK C f m rd (.ops os xs :: k) fr σ e fr' σ'

/-- From what is known on, these items run to an end that is wanted. -/
def W (X : Cx) (Q : Ex → Fr → St → Prop) (k : List Itm) (ρ : Env) (Z : List (Nat × AObj)) : Prop :=
  ∀ fr σ, FrOK X.n ρ fr → Hp X Z σ → ∃ e fr' σ', RunK X.C X.f X.m X.rd k fr σ e fr' σ' ∧ Q e fr' σ'

section
variable {X : Cx} {Q : Ex → Fr → St → Prop} {k : List Itm} {ρ : Env} {Z : List (Nat × AObj)}

theorem runK_code {C f m rd c fr σ e fr' σ'} (h : RunK C f m rd [.code c] fr σ e fr' σ') : Run C (.code f m rd c fr) σ (.code e fr') σ' := by
  cases h with
  | codeN h1 h2 => cases h2; exact h1
  | codeX h1 h2 h3 => cases h2
  | codeE h1 h2 => exact h1
  | codeR h1 => exact h1

/-! ### How it goes on -/
theorem W_nil (h : ∀ fr σ, FrOK X.n ρ fr → Hp X Z σ → Q .normal fr σ) : W X Q [] ρ Z := fun fr σ hf hz => ⟨.normal, fr, σ, .nil, h fr σ hf hz⟩
theorem W_inB {id : Nat} (h : W X Q k ρ Z) : W X Q (.inB id :: k) ρ Z := fun fr σ hf hz => by
  obtain ⟨e, fr', σ', hr, hq⟩ := h fr σ hf hz
  exact ⟨e, fr', σ', .inB hr, hq⟩
theorem W_skip (h : W X Q k ρ Z) : W X Q (.code .skip :: k) ρ Z := fun fr σ hf hz => by
  obtain ⟨e, fr', σ', hr, hq⟩ := h fr σ hf hz
  exact ⟨e, fr', σ', .codeN .skip hr, hq⟩
theorem W_label {l : Nat} (h : W X Q k ρ Z) : W X Q (.code (.label l) :: k) ρ Z := fun fr σ hf hz => by
  obtain ⟨e, fr', σ', hr, hq⟩ := h fr σ hf hz
  exact ⟨e, fr', σ', .codeN .label hr, hq⟩
theorem W_ret (h : ∀ fr σ, FrOK X.n ρ fr → Hp X Z σ → Q .ret fr σ) : W X Q (.code .ret :: k) ρ Z := fun fr σ hf hz => ⟨.ret, fr, σ, .codeR .ret, h fr σ hf hz⟩
theorem W_exit {id : Nat} {k' : List Itm} (hd : dropTo id k = some k') (h : W X Q k' ρ Z) : W X Q (.code (.exit id) :: k) ρ Z := fun fr σ hf hz => by
  obtain ⟨e, fr', σ', hr, hq⟩ := h fr σ hf hz
  exact ⟨e, fr', σ', .codeX .exit hd hr, hq⟩
theorem W_exitOut {id : Nat} (hd : dropTo id k = none) (h : ∀ fr σ, FrOK X.n ρ fr → Hp X Z σ → Q (.exit id) fr σ) : W X Q (.code (.exit id) :: k) ρ Z := fun fr σ hf hz => ⟨_, fr, σ, .codeE .exit hd, h fr σ hf hz⟩

theorem W_seq {a b : Code} (h : W X Q (.code a :: .code b :: k) ρ Z) : W X Q (.code (.seq a b) :: k) ρ Z := fun fr σ hf hz => by
  obtain ⟨e, fr', σ', hr, hq⟩ := h fr σ hf hz
  refine ⟨e, fr', σ', ?_, hq⟩
  cases hr with
  | codeN h1 h2 =>
    cases h2 with
    | codeN h3 h4 => exact .codeN (.seqN h1 h3) h4
    | codeX h3 h4 h5 => exact .codeX (.seqN h1 h3) h4 h5
    | codeE h3 h4 => exact .codeE (.seqN h1 h3) h4
    | codeR h3 => exact .codeR (.seqN h1 h3)
  | codeX h1 h2 h3 => exact .codeX (.seqX h1 (by intro h; cases h)) h2 h3
  | codeE h1 h2 => exact .codeE (.seqX h1 (by intro h; cases h)) h2
  | codeR h1 => exact .codeR (.seqX h1 (by intro h; cases h))

theorem W_block {id : Nat} {c : Code} (h : W X Q (.code c :: .inB id :: k) ρ Z) : W X Q (.code (.block id c) :: k) ρ Z := fun fr σ hf hz => by
  obtain ⟨e, fr', σ', hr, hq⟩ := h fr σ hf hz
  refine ⟨e, fr', σ', ?_, hq⟩
  cases hr with
  | codeN h1 h2 => cases h2 with | inB h2 => exact .codeN (.block h1) h2
  | codeX h1 h2 h3 =>
    rename_i i k'
    have hb := Run.block (id := id) h1
    rw [show exIn id (.exit i) = if i = id then .normal else .exit i from rfl] at hb
    simp only [dropTo] at h2
    by_cases hi : i = id
    · subst hi
      rw [if_pos rfl] at hb
      simp only [Nat.beq_refl, cond_true, Option.some.injEq] at h2
      subst h2
      exact .codeN hb h3
    · rw [if_neg hi] at hb
      have : Nat.beq id i = false := by rw [Bool.eq_false_iff]; intro h; exact hi (Nat.eq_of_beq_eq_true h).symm
      rw [this] at h2
      exact .codeX hb h2 h3
  | codeE h1 h2 =>
    rename_i i
    have hb := Run.block (id := id) h1
    rw [show exIn id (.exit i) = if i = id then .normal else .exit i from rfl] at hb
    simp only [dropTo] at h2
    by_cases hi : i = id
    · subst hi
      simp at h2
    · rw [if_neg hi] at hb
      have : Nat.beq id i = false := by rw [Bool.eq_false_iff]; intro h; exact hi (Nat.eq_of_beq_eq_true h).symm
      rw [this] at h2
      exact .codeE hb h2
  | codeR h1 => exact .codeR (.block h1)

theorem W_loop {c : Code} (h : W X Q (.code c :: .code (.loop c) :: k) ρ Z) : W X Q (.code (.loop c) :: k) ρ Z := fun fr σ hf hz => by
  obtain ⟨e, fr', σ', hr, hq⟩ := h fr σ hf hz
  refine ⟨e, fr', σ', ?_, hq⟩
  cases hr with
  | codeN h1 h2 =>
    cases h2 with
    | codeN h3 h4 => exact .codeN (.loopN h1 h3) h4
    | codeX h3 h4 h5 => exact .codeX (.loopN h1 h3) h4 h5
    | codeE h3 h4 => exact .codeE (.loopN h1 h3) h4
    | codeR h3 => exact .codeR (.loopN h1 h3)
  | codeX h1 h2 h3 => exact .codeX (.loopX h1 (by intro h; cases h)) h2 h3
  | codeE h1 h2 => exact .codeE (.loopX h1 (by intro h; cases h)) h2
  | codeR h1 => exact .codeR (.loopX h1 (by intro h; cases h))

/-! ### What is known of the frame -/
def evo (n : Nat) (ρ : Env) : Operand → Option V
  | .tmp t => bif Nat.blt t n then some (ρ t) else none
  | .const v => ofConst v
  | .global _ => none
  | .func f => some (.func (.func f) [] [])

theorem evo_sound {n : Nat} {fr : Fr} (hf : FrOK n ρ fr) {x : Operand} {v : V} (h : evo n ρ x = some v) : evalO fr x = some v := by
  cases x with
  | tmp t =>
    simp only [evo] at h
    cases hb : Nat.blt t n with
    | false => rw [hb] at h; cases h
    | true =>
      rw [hb] at h
      have ht : t < n := Nat.le_of_ble_eq_true hb
      simp only [cond_true, Option.some.injEq] at h
      simp only [evalO, hf.2 t ht, h]
  | const c => exact h
  | global g => cases h
  | func f => exact h

theorem ev_t {n t : Nat} {v : V} (ht : Nat.blt t n = true) (h : ρ t = v) : evo n ρ (.tmp t) = some v := by simp [evo, ht, h]

def evl (n : Nat) (ρ : Env) : List Operand → Option (List V)
  | [] => some []
  | x :: xs =>
    match evo n ρ x, evl n ρ xs with
    | some v, some vs => some (v :: vs)
    | _, _ => none

theorem evl_nil {n : Nat} : evl n ρ [] = some [] := rfl
theorem evl_cons {n : Nat} {x : Operand} {xs : List Operand} {v : V} {vs : List V} (h : evo n ρ x = some v) (hs : evl n ρ xs = some vs) : evl n ρ (x :: xs) = some (v :: vs) := by simp [evl, h, hs]
theorem evl_sound {n : Nat} {fr : Fr} (hf : FrOK n ρ fr) : ∀ {xs : List Operand} {vs : List V}, evl n ρ xs = some vs → evalL fr xs = some vs
  | [], vs, h => h
  | x :: xs, vs, h => by
    unfold evl at h
    split at h
    · rename_i v vs' h1 h2
      cases h
      simp [evalL, evo_sound hf h1, evl_sound hf h2]
    · cases h

theorem frOK_put {n : Nat} {fr : Fr} (hf : FrOK n ρ fr) (d : Nat) (v : V) : FrOK n (upd ρ d v) (put fr (some d) v) := by
  refine ⟨by simp [put, hf.1], fun t ht => ?_⟩
  unfold upd
  have hl := hf.1
  by_cases e : t = d
  · subst e
    simp only [Nat.beq_refl, cond_true, put, get]
    rw [List.getD_eq_getElem?_getD, List.getElem?_set_self (by omega)]
    rfl
  · have hb : Nat.beq t d = false := by rw [Bool.eq_false_iff]; intro h; exact e (Nat.eq_of_beq_eq_true h)
    rw [hb]
    simp only [cond_false]
    rw [← hf.2 t ht]
    simp only [put, get, List.getD_eq_getElem?_getD]
    rw [List.getElem?_set_ne (Ne.symm e)]

/-- What a frame holds, in short. -/
def upds (ρ : Env) : List (Nat × V) → Env
  | [] => ρ
  | (t, v) :: l => upd (upds ρ l) t v
def AllEq (ρ : Env) : List (Nat × V) → Prop
  | [] => True
  | (t, v) :: l => ρ t = v ∧ AllEq ρ l
theorem upds_self : ∀ {l : List (Nat × V)}, AllEq ρ l → upds ρ l = ρ
  | [], _ => rfl
  | (t, v) :: l, h => by
    rw [upds, upds_self h.2]
    funext x
    unfold upd
    by_cases e : x = t
    · subst e; simp [h.1]
    · have hb : Nat.beq x t = false := by rw [Bool.eq_false_iff]; intro h; exact e (Nat.eq_of_beq_eq_true h)
      rw [hb]; rfl
theorem W_keep (l : List (Nat × V)) (hl : AllEq ρ l) (h : W X Q k (upds ρ l) Z) : W X Q k ρ Z := by rwa [upds_self hl] at h

/-! ### Branches -/
theorem W_if {c : Operand} {x y : Code} {b : Bool} (hc : evo X.n ρ c = some (.bool b)) (ht : b = true → W X Q (.code x :: k) ρ Z) (he : b = false → W X Q (.code y :: k) ρ Z) : W X Q (.code (.cond c x y) :: k) ρ Z := fun fr σ hf hz => by
  have hc' := evo_sound hf hc
  obtain ⟨e, fr', σ', hr, hq⟩ : ∃ e fr' σ', RunK X.C X.f X.m X.rd (.code (if b then x else y) :: k) fr σ e fr' σ' ∧ Q e fr' σ' := by
    cases b with
    | true => exact ht rfl fr σ hf hz
    | false => exact he rfl fr σ hf hz
  refine ⟨e, fr', σ', ?_, hq⟩
  cases hr with
  | codeN h1 h2 => exact .codeN (.cond hc' h1) h2
  | codeX h1 h2 h3 => exact .codeX (.cond hc' h1) h2 h3
  | codeE h1 h2 => exact .codeE (.cond hc' h1) h2
  | codeR h1 => exact .codeR (.cond hc' h1)
theorem W_then {c : Operand} {x y : Code} (hc : evo X.n ρ c = some (.bool true)) (h : W X Q (.code x :: k) ρ Z) : W X Q (.code (.cond c x y) :: k) ρ Z := W_if hc (fun _ => h) (fun h => by cases h)
theorem W_else {c : Operand} {x y : Code} (hc : evo X.n ρ c = some (.bool false)) (h : W X Q (.code y :: k) ρ Z) : W X Q (.code (.cond c x y) :: k) ρ Z := W_if hc (fun h => by cases h) (fun _ => h)

/-- A test is parted. -/
theorem W_split {t : Nat} {b : Bool} (h : ρ t = .bool b) (ht : b = true → W X Q k (upd ρ t (.bool true)) Z) (hf : b = false → W X Q k (upd ρ t (.bool false)) Z) : W X Q k ρ Z := by
  cases b with
  | true => exact W_keep [(t, .bool true)] ⟨h, trivial⟩ (ht rfl)
  | false => exact W_keep [(t, .bool false)] ⟨h, trivial⟩ (hf rfl)

/-! ### Operations -/
theorem laid_range (os : Array Oper) : Laid os (List.range os.size) os.toList := by
  unfold Laid
  apply List.ext_getElem?
  intro i
  simp only [List.getElem?_map]
  by_cases hi : i < os.size
  · simp [List.getElem?_range hi, hi]
  · simp [hi]

theorem W_region {id : Nat} {os : Array Oper} {xs : List Oper} (hx : os.toList = xs) (h : W X Q (.ops os xs :: k) ρ Z) : W X Q (.code (.region id os false) :: k) ρ Z := fun fr σ hf hz => by
  obtain ⟨e, fr', σ', hr, hq⟩ := h fr σ hf hz
  refine ⟨e, fr', σ', ?_, hq⟩
  cases hr with
  | ops h1 h2 => exact .codeN (.region (h1 _ (hx ▸ laid_range os))) h2

theorem W_done {os : Array Oper} (h : W X Q k ρ Z) : W X Q (.ops os [] :: k) ρ Z := fun fr σ hf hz => by
  obtain ⟨e, fr', σ', hr, hq⟩ := h fr σ hf hz
  refine ⟨e, fr', σ', .ops (fun l hl => ?_) hr, hq⟩
  have : l = [] := by simpa [Laid] using hl
  subst this
  exact .nil

/-- One operation, whatever it is. -/
theorem W_one {os : Array Oper} {x : Oper} {xs : List Oper} {ρ' : Env} {Z' : List (Nat × AObj)}
    (h1 : ∀ fr σ, FrOK X.n ρ fr → Hp X Z σ → ∃ fr1 σ1, FrOK X.n ρ' fr1 ∧ Hp X Z' σ1 ∧ ∀ i l o σ', os[i]? = some x → Run X.C (.ops X.f X.m os l fr1) σ1 o σ' → Run X.C (.ops X.f X.m os (i :: l) fr) σ o σ')
    (h : W X Q (.ops os xs :: k) ρ' Z') : W X Q (.ops os (x :: xs) :: k) ρ Z := fun fr σ hf hz => by
  obtain ⟨fr1, σ1, hf1, hz1, hs⟩ := h1 fr σ hf hz
  obtain ⟨e, fr', σ', hr, hq⟩ := h fr1 σ1 hf1 hz1
  refine ⟨e, fr', σ', ?_, hq⟩
  cases hr with
  | ops h2 h3 =>
    refine .ops (fun l hl => ?_) h3
    cases l with
    | nil => simp [Laid] at hl
    | cons i l =>
      simp only [Laid, List.map_cons, List.cons.injEq] at hl
      exact hs i l _ _ hl.1 (h2 l hl.2)

/-- What a pure operation yields. -/
def PureOp (X : Cx) (ρ : Env) (Z : List (Nat × AObj)) (o : Op) (v : V) : Prop := ∀ d fr σ, FrOK X.n ρ fr → Hp X Z σ → opV X.C.P (X.C.own X.f X.m d) fr σ o = some (v, σ)

theorem W_pure {os : Array Oper} {x : Oper} {xs : List Oper} {d : Nat} {v : V} (hg : x.guard = none) (hd : x.dst = some d) (hv : PureOp X ρ Z x.op v) (h : W X Q (.ops os xs :: k) (upd ρ d v) Z) :
    W X Q (.ops os (x :: xs) :: k) ρ Z :=
  W_one (fun fr σ hf hz => ⟨put fr (some d) v, σ, frOK_put hf d v, hz, fun i l o σ' hi hr => .op hi (by simp [wantedV, hg]) (hv _ fr σ hf hz) (by rw [hd]; exact hr)⟩) h

/-- Nothing but the frame counts. -/
theorem PureOp.of {o : Op} {v : V} (h : ∀ own fr σ, FrOK X.n ρ fr → opV X.C.P own fr σ o = some (v, σ)) : PureOp X ρ Z o v := fun _ fr σ hf _ => h _ fr σ hf
end
end Go.Ev

set_option linter.unusedSimpArgs false
set_option linter.unusedVariables false
namespace Go.Ev

/-- So many cells from one on. -/
def sub : List V → Nat → Nat → List V
  | _, _, 0 => []
  | [], _, _ + 1 => []
  | c :: cs, 0, n + 1 => c :: sub cs 0 n
  | _ :: cs, o + 1, n + 1 => sub cs o (n + 1)
theorem sub_eq : ∀ (cs : List V) (o n : Nat), sub cs o n = (cs.drop o).take n
  | cs, o, 0 => by simp [sub]
  | [], o, n + 1 => by simp [sub]
  | c :: cs, 0, n + 1 => by have := sub_eq cs 0 n; simp [sub, this]
  | c :: cs, o + 1, n + 1 => by simp [sub, sub_eq cs o (n + 1)]

/-- Cells written from one on. -/
def wr : List V → Nat → List V → List V
  | cs, _, [] => cs
  | [], _, _ :: _ => []
  | _ :: cs, 0, v :: vs => v :: wr cs 0 vs
  | c :: cs, o + 1, v :: vs => c :: wr cs o (v :: vs)
theorem wr_eq : ∀ (cs : List V) (o : Nat) (vs : List V), o + vs.length ≤ cs.length → wr cs o vs = cs.take o ++ vs ++ cs.drop (o + vs.length)
  | cs, o, [], h => by simp [wr]
  | [], o, v :: vs, h => by simp at h
  | c :: cs, 0, v :: vs, h => by
    have := wr_eq cs 0 vs (by simpa using h)
    simp [wr, this]
  | c :: cs, o + 1, v :: vs, h => by
    have := wr_eq cs o (v :: vs) (by simp only [List.length_cons] at h ⊢; omega)
    simp only [wr, this, List.take_succ_cons, List.cons_append, List.length_cons]
    rw [show o + 1 + (vs.length + 1) = (o + (vs.length + 1)) + 1 by omega, List.drop_succ_cons]

/-- The known objects, one of them anew. -/
def zset : List (Nat × AObj) → Nat → AObj → List (Nat × AObj)
  | [], _, _ => []
  | (b, _) :: Z, 0, o => (b, o) :: Z
  | p :: Z, i + 1, o => p :: zset Z i o

section
variable {X : Cx} {Q : Ex → Fr → St → Prop} {k : List Itm} {ρ : Env} {Z : List (Nat × AObj)} {own : Bool}

theorem zset_keys : ∀ (Z : List (Nat × AObj)) (i : Nat) (o : AObj), (zset Z i o).map (·.1) = Z.map (·.1)
  | [], _, _ => rfl
  | (b, _) :: Z, 0, o => rfl
  | p :: Z, i + 1, o => by simp [zset, zset_keys Z i o]

theorem zset_mem : ∀ {Z : List (Nat × AObj)} {i : Nat} {o : AObj} {b : Nat} {o0 : AObj} {p : Nat × AObj}, Z[i]? = some (b, o0) → (Z.map (·.1)).Nodup → p ∈ zset Z i o → (p = (b, o)) ∨ (p ∈ Z ∧ p.1 ≠ b)
  | [], i, o, b, o0, p, h, _, _ => by simp at h
  | (b', o') :: Z, 0, o, b, o0, p, h, hn, hp => by
    simp at h
    obtain ⟨rfl, rfl⟩ := h
    simp only [zset, List.mem_cons] at hp
    rcases hp with rfl | hp
    · exact .inl rfl
    · refine .inr ⟨by simp [hp], fun e => ?_⟩
      simp only [List.map_cons, List.nodup_cons] at hn
      exact hn.1 (e ▸ List.mem_map_of_mem hp)
  | q :: Z, i + 1, o, b, o0, p, h, hn, hp => by
    simp only [List.getElem?_cons_succ] at h
    simp only [List.map_cons, List.nodup_cons] at hn
    simp only [zset, List.mem_cons] at hp
    rcases hp with rfl | hp
    · refine .inr ⟨by simp, fun e => hn.1 ?_⟩
      rw [e]
      exact List.mem_map_of_mem (f := (·.1)) (List.mem_of_getElem? h)
    · rcases zset_mem h hn.2 hp with h1 | ⟨h1, h2⟩
      · exact .inl h1
      · exact .inr ⟨by simp [h1], h2⟩

theorem Hp.get {σ : St} (h : Hp X Z σ) {i b : Nat} {o : AObj} (hi : Z[i]? = some (b, o)) : σ[b]? = some o := h.at_ (b, o) (List.mem_of_getElem? hi)

/-- An object turns. -/
theorem Hp.set {σ : St} (h : Hp X Z σ) {i b : Nat} {o o' : AObj} (hi : Z[i]? = some (b, o)) (ho0 : ∀ r, o ≠ .loop r) (ho : ∀ r, o' ≠ .loop r) : Hp X (zset Z i o') (σ.set b o') := by
  have hb := h.get hi
  have hlt := (List.getElem?_eq_some_iff.1 hb).1
  have hbk := h.new _ (List.mem_of_getElem? hi)
  refine ⟨fun p hp => ?_, by rw [zset_keys]; exact h.nd, fun p hp => ?_, by simp [h.len], fun x hx hk => ?_, fun x r hx => ?_, fun p hp => ?_,
    h.loc σ _ (fun c hc => List.getElem?_set_ne (by rintro rfl; exact h.za _ (List.mem_of_getElem? hi) hc)) h.inv, fun p hp => ?_, h.ka, h.loc⟩
  · rcases zset_mem hi h.nd hp with rfl | ⟨h1, h2⟩
    · exact List.getElem?_set_self hlt
    · rw [List.getElem?_set_ne (Ne.symm h2)]; exact h.at_ p h1
  · rcases zset_mem hi h.nd hp with rfl | ⟨h1, h2⟩
    · exact hbk
    · exact h.new p h1
  · rw [List.getElem?_set_ne (by
      rintro rfl
      rcases hbk with h1 | h1
      · exact absurd hx (Nat.not_lt.2 h1)
      · exact hk h1)]
    exact h.old x hx hk
  · by_cases e : b = x
    · subst e; rw [List.getElem?_set_self hlt]; exact fun e => absurd (Option.some.inj e) (ho r)
    · rw [List.getElem?_set_ne e]; exact h.noloop x r hx
  · have hl := h.lp p hp
    rw [List.getElem?_set_ne (by rintro rfl; rw [hb] at hl; exact ho0 _ (Option.some.inj hl))]
    exact hl
  · rcases zset_mem hi h.nd hp with rfl | ⟨h1, h2⟩
    · exact h.za (b, o) (List.mem_of_getElem? hi)
    · exact h.za p h1

/-- A new object. -/
theorem Hp.push {σ : St} (h : Hp X Z σ) (o : AObj) (ho : ∀ r, o ≠ .loop r) : Hp X ((σ.length, o) :: Z) (σ ++ [o]) := by
  have hlt : ∀ p ∈ Z, p.1 < σ.length := fun p hp => (List.getElem?_eq_some_iff.1 (h.at_ p hp)).1
  refine ⟨fun p hp => ?_, ?_, fun p hp => ?_, by simp; exact Nat.le_succ_of_le h.len, fun x hx hk => ?_, fun x r hx => ?_, fun p hp => ?_,
    h.loc σ _ (fun c hc => List.getElem?_append_left (Nat.lt_of_lt_of_le (h.ka c hc) h.len)) h.inv, fun p hp => ?_, h.ka, h.loc⟩
  · rcases List.mem_cons.1 hp with rfl | hp
    · simp
    · rw [List.getElem?_append_left (hlt p hp)]; exact h.at_ p hp
  · simp only [List.map_cons, List.nodup_cons]
    refine ⟨fun hm => ?_, h.nd⟩
    obtain ⟨p, hp, e⟩ := List.mem_map.1 hm
    have := hlt p hp
    omega
  · rcases List.mem_cons.1 hp with rfl | hp
    · exact .inl h.len
    · exact h.new p hp
  · rw [List.getElem?_append_left (Nat.lt_of_lt_of_le hx h.len)]; exact h.old x hx hk
  · rcases Nat.lt_trichotomy x σ.length with h1 | h1 | h1
    · rw [List.getElem?_append_left h1]; exact h.noloop x r hx
    · subst h1; simp; exact fun e => absurd e (ho r)
    · rw [List.getElem?_eq_none (by simp; omega)]; intro e; cases e
  · have hl := h.lp p hp
    rw [List.getElem?_append_left (List.getElem?_eq_some_iff.1 hl).1]
    exact hl
  · rcases List.mem_cons.1 hp with rfl | hp
    · exact fun hc => absurd (h.ka _ hc) (Nat.not_lt.2 h.len)
    · exact h.za p hp

/-- Less is known. -/
theorem Hp.less {σ : St} {Z' : List (Nat × AObj)} (h : Hp X Z σ) (hs : Z'.Sublist Z) : Hp X Z' σ :=
  ⟨fun p hp => h.at_ p (hs.subset hp), h.nd.sublist (hs.map _), fun p hp => h.new p (hs.subset hp), h.len, h.old, h.noloop, h.lp, h.inv, fun p hp => h.za p (hs.subset hp), h.ka, h.loc⟩
theorem W_less {Z' : List (Nat × AObj)} (hs : Z'.Sublist Z) (h : W X Q k ρ Z') : W X Q k ρ Z := fun fr σ hf hz => h fr σ hf (hz.less hs)

/-! ### What an operation yields -/
theorem wrapI (n : Int) : IntKind.i64.wrap n = (n + 9223372036854775808) % 18446744073709551616 - 9223372036854775808 := by
  have h : IntKind.i64.wrap n = (if 9223372036854775808 ≤ n % 18446744073709551616 then n % 18446744073709551616 - 18446744073709551616 else n % 18446744073709551616) := by
    simp [IntKind.wrap, IntKind.bits, IntKind.signed]
  rw [h]
  split <;> omega
theorem po_move {x : Operand} {v : V} (h : evo X.n ρ x = some v) : PureOp X ρ Z (.move x) v := fun own fr σ hf hz => by simp [opV, evo_sound hf h]
theorem po_assign {x : Operand} {v : V} (h : evo X.n ρ x = some v) : PureOp X ρ Z (.assign x) v := fun own fr σ hf hz => by simp [opV, evo_sound hf h]
theorem po_pick {c x y : Operand} {b : Bool} {v : V} (hc : evo X.n ρ c = some (.bool b)) (h : (bif b then evo X.n ρ x else evo X.n ρ y) = some v) : PureOp X ρ Z (.pick c x y) v := fun own fr σ hf hz => by
  cases b <;> simp [opV, evo_sound hf hc, evo_sound hf h]
theorem po_pickT {c x y : Operand} {v : V} (hc : evo X.n ρ c = some (.bool true)) (h : evo X.n ρ x = some v) : PureOp X ρ Z (.pick c x y) v := po_pick hc h
theorem po_pickF {c x y : Operand} {v : V} (hc : evo X.n ρ c = some (.bool false)) (h : evo X.n ρ y = some v) : PureOp X ρ Z (.pick c x y) v := po_pick hc h
theorem po_bin {op : BinOp} {t t' : TypeId} {x y : Operand} {a b v : V} (hx : evo X.n ρ x = some a) (hy : evo X.n ρ y = some b) (hv : binV X.C.P op t x y a b = some v) : PureOp X ρ Z (.binOp op t x y t') v := fun own fr σ hf hz => by
  simp [opV, evo_sound hf hx, evo_sound hf hy, hv]
theorem po_add {t t' : TypeId} {x y : Operand} {a b : Int} (hx : evo X.n ρ x = some (.int .i64 a)) (hy : evo X.n ρ y = some (.int .i64 b)) (hr : -9223372036854775808 ≤ a + b ∧ a + b ≤ 9223372036854775807) :
    PureOp X ρ Z (.binOp .add t x y t') (.int .i64 (a + b)) := po_bin hx hy (by
  have : IntKind.i64.wrap (a + b) = a + b := by rw [wrapI]; omega
  simp [binV, binInt, this])
theorem po_sub {t t' : TypeId} {x y : Operand} {a b : Int} (hx : evo X.n ρ x = some (.int .i64 a)) (hy : evo X.n ρ y = some (.int .i64 b)) (hr : -9223372036854775808 ≤ a - b ∧ a - b ≤ 9223372036854775807) :
    PureOp X ρ Z (.binOp .sub t x y t') (.int .i64 (a - b)) := po_bin hx hy (by
  have : IntKind.i64.wrap (a - b) = a - b := by rw [wrapI]; omega
  simp [binV, binInt, this])
theorem po_mul {t t' : TypeId} {x y : Operand} {a b : Int} (hx : evo X.n ρ x = some (.int .i64 a)) (hy : evo X.n ρ y = some (.int .i64 b)) (hr : -9223372036854775808 ≤ a * b ∧ a * b ≤ 9223372036854775807) :
    PureOp X ρ Z (.binOp .mul t x y t') (.int .i64 (a * b)) := po_bin hx hy (by
  have : IntKind.i64.wrap (a * b) = a * b := by rw [wrapI]; omega
  simp [binV, binInt, this])
theorem po_quo {t t' : TypeId} {x y : Operand} {a b : Int} (hx : evo X.n ρ x = some (.int .i64 a)) (hy : evo X.n ρ y = some (.int .i64 b)) (h0 : 0 ≤ a) (h1 : a ≤ 9223372036854775807) (hb : 0 < b) :
    PureOp X ρ Z (.binOp .quo t x y t') (.int .i64 (a / b)) := po_bin hx hy (by
  have h2 : 0 ≤ a / b := Int.ediv_nonneg h0 (Int.le_of_lt hb)
  have h3 : a / b ≤ a := Int.ediv_le_self b h0
  have : IntKind.i64.wrap (a / b) = a / b := by rw [wrapI]; omega
  have hne : ¬ b = 0 := by omega
  simp [binV, binInt, hne, Int.tdiv_eq_ediv_of_nonneg h0, this])
theorem po_rem {t t' : TypeId} {x y : Operand} {k : IntKind} {a b : Int} (hx : evo X.n ρ x = some (.int k a)) (hy : evo X.n ρ y = some (.int k b)) (h0 : 0 ≤ a) (hb : 0 < b) :
    PureOp X ρ Z (.binOp .rem t x y t') (.int k (a % b)) := po_bin hx hy (by
  have hne : ¬ b = 0 := by omega
  simp [binV, binInt, hne, Int.tmod_eq_emod_of_nonneg h0])
theorem po_un {op : UnOp} {t : TypeId} {x : Operand} {a v : V} (hx : evo X.n ρ x = some a) (hv : unV op a = some v) : PureOp X ρ Z (.unOp op t x) v := fun own fr σ hf hz => by simp [opV, evo_sound hf hx, hv]
theorem po_conv {s d : TypeId} {x : Operand} {j kk : IntKind} {n : Int} {D : TypeDesc} (hx : evo X.n ρ x = some (.int j n)) (hs : X.C.P.underlying s = some D) (hd : X.C.P.underlying d = some (.int kk)) : PureOp X ρ Z (.convert s d x) (.int kk (kk.wrap n)) := fun own fr σ hf hz => by
  simp [opV, evo_sound hf hx, convV, hs, hd]
theorem po_extract {x : Operand} {i : Nat} {vs : List V} {v : V} (hx : evo X.n ρ x = some (.tup vs)) (hv : vs[i]? = some v) : PureOp X ρ Z (.extract x i) v := fun own fr σ hf hz => by simp [opV, evo_sound hf hx, hv]
theorem po_func {f : FuncId} {a c : Array Operand} {va vc : List V} (ha : evl X.n ρ a.toList = some va) (hc : evl X.n ρ c.toList = some vc) : PureOp X ρ Z (.makeFunc (.func f) a c) (.func (.func f) va vc) := fun own fr σ hf hz => by
  simp [opV, evl_sound hf ha, evl_sound hf hc]
theorem po_len {t : TypeId} {ts : Array TypeId} {x : Operand} {e : TypeId} {tk : Tk} {xs : List V} (hts : ts.toList = [t]) (hu : X.C.P.underlying t = some (.slice e)) (hx : evo X.n ρ x = some (.sl tk xs)) :
    PureOp X ρ Z (.call { callee := .builtin .len, args := #[x], argTypes := ts }) (.int .i64 xs.length) := fun own fr σ hf hz => by
  simp [opV, evalL, evo_sound hf hx, hts, builtinV, hu]
theorem po_len_nil {t : TypeId} {ts : Array TypeId} {x : Operand} {e : TypeId} {tk : Option Nat} (hts : ts.toList = [t]) (hu : X.C.P.underlying t = some (.slice e)) (hx : evo X.n ρ x = some (.nilsl tk)) :
    PureOp X ρ Z (.call { callee := .builtin .len, args := #[x], argTypes := ts }) (.int .i64 0) := fun own fr σ hf hz => by
  simp [opV, evalL, evo_sound hf hx, hts, builtinV, hu]
theorem po_len_msl {t : TypeId} {ts : Array TypeId} {x : Operand} {e e' : TypeId} {b o n : Nat} {c : Option Nat} (hts : ts.toList = [t]) (hu : X.C.P.underlying t = some (.slice e)) (hx : evo X.n ρ x = some (.msl e' b o n c)) :
    PureOp X ρ Z (.call { callee := .builtin .len, args := #[x], argTypes := ts }) (.int .i64 n) := fun own fr σ hf hz => by
  simp [opV, evalL, evo_sound hf hx, hts, builtinV, hu]
theorem po_max {ts : Array TypeId} {x y : Operand} {kk : IntKind} {a b : Int} (hx : evo X.n ρ x = some (.int kk a)) (hy : evo X.n ρ y = some (.int kk b)) :
    PureOp X ρ Z (.call { callee := .builtin .max, args := #[x, y], argTypes := ts }) (.int kk (if b > a then b else a)) := fun own fr σ hf hz => by
  simp [opV, evalL, evo_sound hf hx, evo_sound hf hy, builtinV, minmax]
theorem po_min {ts : Array TypeId} {x y : Operand} {kk : IntKind} {a b : Int} (hx : evo X.n ρ x = some (.int kk a)) (hy : evo X.n ρ y = some (.int kk b)) :
    PureOp X ρ Z (.call { callee := .builtin .min, args := #[x, y], argTypes := ts }) (.int kk (if b < a then b else a)) := fun own fr σ hf hz => by
  simp [opV, evalL, evo_sound hf hx, evo_sound hf hy, builtinV, minmax]

/-! ### Addresses -/
theorem po_fieldAddr {s : TypeId} {x : Operand} {i : Nat} {fd : Field} {b o n : Nat} (hx : evo X.n ρ x = some (.ptr b o)) (hf : fieldOf X.C.P s i = some fd) (ht : tsize X.C.P fd.type = n + 1) {q : Nat} (hq : o + fd.offset = q) :
    PureOp X ρ Z (.fieldAddr s x i) (.ptr b q) := fun own fr σ hfr hz => by simp [opV, evo_sound hfr hx, fieldAddrV, hf, ht, shiftP, hq]
theorem po_fieldAddrR {s : TypeId} {x : Operand} {i : Nat} {fd : Field} {cs cs' : List V} {n : Nat} (hx : evo X.n ρ x = some (.rptr cs)) (hf : fieldOf X.C.P s i = some fd) (ht : tsize X.C.P fd.type = n + 1) (hq : cs.drop fd.offset = cs') :
    PureOp X ρ Z (.fieldAddr s x i) (.rptr cs') := fun own fr σ hfr hz => by simp [opV, evo_sound hfr hx, fieldAddrV, hf, ht, shiftP, hq]
theorem po_field {s : TypeId} {x : Operand} {i : Nat} {fd : Field} {cs : List V} {v : V} (hx : evo X.n ρ x = some (.agg cs)) (hf : fieldOf X.C.P s i = some fd) (hk : knownT X.C.P fd.type = true) (ha : isAggT X.C.P fd.type = false) (hv : cs[fd.offset]? = some v) :
    PureOp X ρ Z (.field s x i) v := fun own fr σ hfr hz => by simp [opV, evo_sound hfr hx, fieldV, hf, hk, partV, ha, hv]
theorem po_fieldA {s : TypeId} {x : Operand} {i : Nat} {fd : Field} {cs cs' : List V} {n : Nat} (hx : evo X.n ρ x = some (.agg cs)) (hf : fieldOf X.C.P s i = some fd) (hk : knownT X.C.P fd.type = true) (ha : isAggT X.C.P fd.type = true) (ht : tsize X.C.P fd.type = n) (hv : sub cs fd.offset n = cs') :
    PureOp X ρ Z (.field s x i) (.agg cs') := fun own fr σ hfr hz => by subst hv; simp [opV, evo_sound hfr hx, fieldV, hf, hk, partV, ha, ht, sub_eq]
/-- The place of an element of a slice that nobody writes. -/
theorem po_indexAddr {t : TypeId} {x y : Operand} {e : TypeId} {tk : Tk} {xs : List V} {kk : IntKind} {i : Int} {v : V} {n : Nat} (hu : X.C.P.underlying t = some (.slice e)) (ht : tsize X.C.P e = n + 1) (hx : evo X.n ρ x = some (.sl tk xs)) (hy : evo X.n ρ y = some (.int kk i))
    (h0 : 0 ≤ i) (hv : xs[i.toNat]? = some v) {cs : List V} (hc : vcells v = cs) (hl : cs.length = n + 1) : PureOp X ρ Z (.indexAddr t x y) (.rptr cs) := fun own fr σ hfr hz => by
  subst hc; simp [opV, evo_sound hfr hx, evo_sound hfr hy, indexAddrV, hu, h0, hv, hl, ht]
theorem po_indexAddrM {t : TypeId} {x y : Operand} {e e' : TypeId} {b o m : Nat} {c : Option Nat} {kk : IntKind} {i : Int} {n q : Nat} (hu : X.C.P.underlying t = some (.slice e)) (ht : tsize X.C.P e = n + 1) (hx : evo X.n ρ x = some (.msl e' b o m c)) (hy : evo X.n ρ y = some (.int kk i))
    (h0 : 0 ≤ i) (h1 : i < m) (hq : o + i.toNat * (n + 1) = q) : PureOp X ρ Z (.indexAddr t x y) (.ptr b q) := fun own fr σ hfr hz => by
  simp [opV, evo_sound hfr hx, evo_sound hfr hy, indexAddrV, hu, h0, h1, ht, hq]
theorem po_indexAddrA {t : TypeId} {x y : Operand} {e : TypeId} {len : Nat} {b o : Nat} {kk : IntKind} {i : Int} {n q : Nat} (hu : X.C.P.underlying t = some (.array len e)) (ht : tsize X.C.P e = n + 1) (hx : evo X.n ρ x = some (.ptr b o)) (hy : evo X.n ρ y = some (.int kk i))
    (h0 : 0 ≤ i) (h1 : i < len) (hq : o + i.toNat * (n + 1) = q) : PureOp X ρ Z (.indexAddr t x y) (.ptr b q) := fun own fr σ hfr hz => by
  simp [opV, evo_sound hfr hx, evo_sound hfr hy, indexAddrV, hu, h0, h1, ht, shiftP, hq]
theorem po_indexAddrAR {t : TypeId} {x y : Operand} {e : TypeId} {len : Nat} {cs cs' : List V} {kk : IntKind} {i : Int} {n : Nat} (hu : X.C.P.underlying t = some (.array len e)) (ht : tsize X.C.P e = n + 1) (hx : evo X.n ρ x = some (.rptr cs)) (hy : evo X.n ρ y = some (.int kk i))
    (h0 : 0 ≤ i) (h1 : i < len) (hq : cs.drop (i.toNat * (n + 1)) = cs') : PureOp X ρ Z (.indexAddr t x y) (.rptr cs') := fun own fr σ hfr hz => by
  simp [opV, evo_sound hfr hx, evo_sound hfr hy, indexAddrV, hu, h0, h1, ht, shiftP, hq]

/-! ### Loads -/
theorem rd_of {σ : St} (hz : Hp X Z σ) {i b o n : Nat} {e : TypeId} {cs : List V} (hi : Z[i]? = some (b, .cells e cs)) (hn : o + n ≤ cs.length) : rdCells σ b o n = some (sub cs o n) := by
  simp [rdCells, hz.get hi, hn, sub_eq]
theorem po_load {t : TypeId} {x : Operand} {b o i : Nat} {e : TypeId} {cs : List V} {v : V} (hx : evo X.n ρ x = some (.ptr b o)) (hk : knownT X.C.P t = true) (ha : isAggT X.C.P t = false) (hi : Z[i]? = some (b, .cells e cs)) (hv : cs[o]? = some v) :
    PureOp X ρ Z (.load t x) v := fun own fr σ hfr hz => by
  have hlt := (List.getElem?_eq_some_iff.1 hv).1
  have h1 : rdCells σ b o 1 = some [v] := by
    rw [rd_of hz hi (by omega), sub_eq]
    rw [List.drop_eq_getElem_cons hlt]
    simp [(List.getElem?_eq_some_iff.1 hv).2]
  simp [opV, evo_sound hfr hx, loadV, hk, nread, ha, readN, h1, mkV]
theorem po_loadA {t : TypeId} {x : Operand} {b o i n : Nat} {e : TypeId} {cs cs' : List V} (hx : evo X.n ρ x = some (.ptr b o)) (hk : knownT X.C.P t = true) (ha : isAggT X.C.P t = true) (ht : tsize X.C.P t = n) (hi : Z[i]? = some (b, .cells e cs)) (hn : Nat.ble (o + n) cs.length = true) (hv : sub cs o n = cs') :
    PureOp X ρ Z (.load t x) (.agg cs') := fun own fr σ hfr hz => by
  subst hv
  simp [opV, evo_sound hfr hx, loadV, hk, nread, ha, ht, readN, rd_of hz hi (Nat.le_of_ble_eq_true hn), mkV]
theorem po_loadR {t : TypeId} {x : Operand} {c : V} {cs : List V} (hx : evo X.n ρ x = some (.rptr (c :: cs))) (hk : knownT X.C.P t = true) (ha : isAggT X.C.P t = false) : PureOp X ρ Z (.load t x) c := fun own fr σ hfr hz => by
  simp [opV, evo_sound hfr hx, loadV, hk, nread, ha, readN, mkV]
theorem po_loadRA {t : TypeId} {x : Operand} {cs cs' : List V} {n : Nat} (hx : evo X.n ρ x = some (.rptr cs)) (hk : knownT X.C.P t = true) (ha : isAggT X.C.P t = true) (ht : tsize X.C.P t = n) (hn : Nat.ble n cs.length = true) (hv : sub cs 0 n = cs') : PureOp X ρ Z (.load t x) (.agg cs') := fun own fr σ hfr hz => by
  subst hv
  simp [opV, evo_sound hfr hx, loadV, hk, nread, ha, ht, readN, Nat.le_of_ble_eq_true hn, mkV, sub_eq]
/-- Out of what was there at first. -/
theorem po_loadO {t : TypeId} {x : Operand} {b o : Nat} {e : TypeId} {cs : List V} {v : V} (hx : evo X.n ρ x = some (.ptr b o)) (hk : knownT X.C.P t = true) (ha : isAggT X.C.P t = false) (hi : X.σ0[b]? = some (.cells e cs)) (hK : b ∉ X.K) (hv : cs[o]? = some v) :
    PureOp X ρ Z (.load t x) v := fun own fr σ hfr hz => by
  have hlt := (List.getElem?_eq_some_iff.1 hv).1
  have hb := (List.getElem?_eq_some_iff.1 hi).1
  have h1 : rdCells σ b o 1 = some [v] := by
    unfold rdCells
    rw [hz.old b hb hK, hi]
    simp only
    rw [if_pos (by omega), List.drop_eq_getElem_cons hlt]
    simp [(List.getElem?_eq_some_iff.1 hv).2]
  simp [opV, evo_sound hfr hx, loadV, hk, nread, ha, readN, h1, mkV]
theorem po_loadOA {t : TypeId} {x : Operand} {b o n : Nat} {e : TypeId} {cs cs' : List V} (hx : evo X.n ρ x = some (.ptr b o)) (hk : knownT X.C.P t = true) (ha : isAggT X.C.P t = true) (ht : tsize X.C.P t = n) (hi : X.σ0[b]? = some (.cells e cs)) (hK : b ∉ X.K) (hn : Nat.ble (o + n) cs.length = true) (hv : sub cs o n = cs') :
    PureOp X ρ Z (.load t x) (.agg cs') := fun own fr σ hfr hz => by
  subst hv
  have hb := (List.getElem?_eq_some_iff.1 hi).1
  have h1 : rdCells σ b o n = some (sub cs o n) := by
    unfold rdCells
    rw [hz.old b hb hK, hi]
    simp [Nat.le_of_ble_eq_true hn, sub_eq]
  simp [opV, evo_sound hfr hx, loadV, hk, nread, ha, ht, readN, h1, mkV]

/-! ### Values built -/
def evp (n : Nat) (ρ : Env) : List (Nat × Operand) → Option (List (Nat × V))
  | [] => some []
  | (i, x) :: xs =>
    match evo n ρ x, evp n ρ xs with
    | some v, some vs => some ((i, v) :: vs)
    | _, _ => none
theorem evp_nil {n : Nat} : evp n ρ [] = some [] := rfl
theorem evp_cons {n i : Nat} {x : Operand} {xs : List (Nat × Operand)} {v : V} {vs : List (Nat × V)} (h : evo n ρ x = some v) (hs : evp n ρ xs = some vs) : evp n ρ ((i, x) :: xs) = some ((i, v) :: vs) := by simp [evp, h, hs]
theorem evp_sound {n : Nat} {fr : Fr} (hf : FrOK n ρ fr) : ∀ {xs : List (Nat × Operand)} {vs : List (Nat × V)}, evp n ρ xs = some vs → evalP fr xs = some vs
  | [], vs, h => h
  | (i, x) :: xs, vs, h => by
    unfold evp at h
    split at h
    · rename_i v vs' h1 h2
      cases h
      simp [evalP, evo_sound hf h1, evp_sound hf h2]
    · cases h
def nth : List (Nat × Nat) → Nat → Nat × Nat
  | [], _ => (0, 0)
  | p :: _, 0 => p
  | _ :: l, i + 1 => nth l i
def lay (pl : List (Nat × Nat)) : List V → List (Nat × V) → List V
  | cs, [] => cs
  | cs, (i, v) :: r => lay pl (wr cs (nth pl i).1 (vcells v)) r
def layOK (pl : List (Nat × Nat)) (m : Nat) : List (Nat × V) → Bool
  | [] => true
  | (i, v) :: r => (Nat.blt i pl.length && Nat.beq (vcells v).length (nth pl i).2 && Nat.ble ((nth pl i).1 + (nth pl i).2) m) && layOK pl m r
theorem nth_eq : ∀ {pl : List (Nat × Nat)} {i : Nat}, i < pl.length → pl[i]? = some (nth pl i)
  | _ :: _, 0, _ => rfl
  | _ :: l, i + 1, h => by simpa [nth] using nth_eq (pl := l) (by simpa using h)
theorem fill_lay {pl : List (Nat × Nat)} : ∀ {vs : List (Nat × V)} {cs : List V}, layOK pl cs.length vs = true → fillV (fun i => pl[i]?) cs vs = some (lay pl cs vs)
  | [], cs, _ => rfl
  | (i, v) :: r, cs, h => by
    simp only [layOK, Bool.and_eq_true] at h
    obtain ⟨⟨⟨h1, h2⟩, h3⟩, h4⟩ := h
    have h1 := Nat.le_of_ble_eq_true h1
    have h2 := Nat.eq_of_beq_eq_true h2
    have h3 := Nat.le_of_ble_eq_true h3
    have hw := wr_eq cs (nth pl i).1 (vcells v) (by omega)
    have hlen : (wr cs (nth pl i).1 (vcells v)).length = cs.length := by rw [hw]; simp; omega
    simp only [fillV, nth_eq h1, lay]
    rw [if_pos ⟨h2, h3⟩, ← h2, ← hw]
    exact fill_lay (by rw [hlen]; exact h4)
theorem po_struct {t : TypeId} {ps : Array (Nat × Operand)} {vs : List (Nat × V)} {z : List V} {pl : List (Nat × Nat)} {cs : List V} (hp : evp X.n ρ ps.toList = some vs) (hz : zeroOf X.C.P t = some (.agg z)) (hpl : placesOf X.C.P t = some (fun i => pl[i]?)) (hok : layOK pl z.length vs = true) (hf : lay pl z vs = cs) :
    PureOp X ρ Z (.build t ps) (.agg cs) := fun own fr σ hfr _ => by subst hf; simp [opV, evp_sound hfr hp, buildV, hz, hpl, vcells, fill_lay hok]
theorem po_build {t : TypeId} {ps : Array (Nat × Operand)} {vs : List (Nat × V)} {z : V} {place : Nat → Option (Nat × Nat)} {cs : List V} (hp : evp X.n ρ ps.toList = some vs) (hz : zeroOf X.C.P t = some z) (hpl : placesOf X.C.P t = some place) (hf : fillV place (vcells z) vs = some cs) :
    PureOp X ρ Z (.build t ps) (.agg cs) := fun own fr σ hfr _ => by simp [opV, evp_sound hfr hp, buildV, hz, hpl, hf]

/-! ### Steps that change the store -/
theorem W_step {os : Array Oper} {x : Oper} {xs : List Oper} (h : ∀ fr σ, FrOK X.n ρ fr → Hp X Z σ → ∃ ρ' Z' fr1 σ1, FrOK X.n ρ' fr1 ∧ Hp X Z' σ1 ∧ W X Q (.ops os xs :: k) ρ' Z' ∧
    ∀ i l o σ', os[i]? = some x → Run X.C (.ops X.f X.m os l fr1) σ1 o σ' → Run X.C (.ops X.f X.m os (i :: l) fr) σ o σ') : W X Q (.ops os (x :: xs) :: k) ρ Z := fun fr σ hf hz => by
  obtain ⟨ρ', Z', fr1, σ1, hf1, hz1, hw, hs⟩ := h fr σ hf hz
  obtain ⟨e, fr', σ', hr, hq⟩ := hw fr1 σ1 hf1 hz1
  refine ⟨e, fr', σ', ?_, hq⟩
  cases hr with
  | ops h2 h3 =>
    refine .ops (fun l hl => ?_) h3
    cases l with
    | nil => simp [Laid] at hl
    | cons i l =>
      simp only [Laid, List.map_cons, List.cons.injEq] at hl
      exact hs i l _ _ hl.1 (h2 l hl.2)

/-- An operation with one new object. -/
theorem W_new {os : Array Oper} {x : Oper} {xs : List Oper} {d : Nat} {o : AObj} (hg : x.guard = none) (hd : x.dst = some d) (ho : ∀ r, o ≠ .loop r)
    (hv : ∀ own fr σ, FrOK X.n ρ fr → Hp X Z σ → opV X.C.P own fr σ x.op = some (.ptr σ.length 0, σ ++ [o]))
    (h : ∀ b, X.σ0.length ≤ b → W X Q (.ops os xs :: k) (upd ρ d (.ptr b 0)) ((b, o) :: Z)) : W X Q (.ops os (x :: xs) :: k) ρ Z :=
  W_step fun fr σ hf hz => ⟨_, _, put fr (some d) (.ptr σ.length 0), σ ++ [o], frOK_put hf d _, hz.push o ho, h σ.length hz.len, fun i l o' σ' hi hr => .op hi (by simp [wantedV, hg]) (hv _ fr σ hf hz) (by rw [hd]; exact hr)⟩

theorem W_alloc {os : Array Oper} {x : Oper} {xs : List Oper} {d : Nat} {e : TypeId} {z : V} {cs : List V} (hg : x.guard = none) (hd : x.dst = some d) (hx : x.op = .alloc e) (hz : zeroOf X.C.P e = some z) (hn : ∀ t, z ≠ .nilsl t) (hc : vcells z = cs)
    (h : ∀ b, X.σ0.length ≤ b → W X Q (.ops os xs :: k) (upd ρ d (.ptr b 0)) ((b, .cells e cs) :: Z)) : W X Q (.ops os (x :: xs) :: k) ρ Z :=
  W_new hg hd (fun r h => by cases h) (fun own fr σ hf hh => by
    rw [hx]
    simp only [opV, allocV, hz]
    split
    · rename_i h1 h2; exact absurd (Option.some.inj h1) (hn _)
    · rename_i h0 h1; rw [← Option.some.inj h0, hc]
    · rename_i h1; cases h1) h

theorem W_box {os : Array Oper} {x : Oper} {xs : List Oper} {d : Nat} {e : TypeId} {y : Operand} {v : V} {cs : List V} (hg : x.guard = none) (hd : x.dst = some d) (hx : x.op = .box e y) (hy : evo X.n ρ y = some v) (hc : vcells v = cs)
    (h : ∀ b, X.σ0.length ≤ b → W X Q (.ops os xs :: k) (upd ρ d (.ptr b 0)) ((b, .cells e cs) :: Z)) : W X Q (.ops os (x :: xs) :: k) ρ Z :=
  W_new hg hd (fun r h => by cases h) (fun own fr σ hf hh => by rw [hx]; simp [opV, evo_sound hf hy, hc]) h

/-- A variable of a slice's type: its row is the store's. -/
theorem W_allocS {os : Array Oper} {x : Oper} {xs : List Oper} {d : Nat} {e e' : TypeId} (hg : x.guard = none) (hd : x.dst = some d) (hx : x.op = .alloc e) (hz : zeroOf X.C.P e = some (.nilsl none)) (hu : X.C.P.underlying e = some (.slice e'))
    (h : ∀ t b, X.σ0.length ≤ t → X.σ0.length ≤ b → W X Q (.ops os xs :: k) (upd ρ d (.ptr b 0)) ((b, .cells e [.nilsl (some t)]) :: (t, .tok e' 0) :: Z)) : W X Q (.ops os (x :: xs) :: k) ρ Z :=
  W_step fun fr σ hf hz' => ⟨_, _, put fr (some d) (.ptr (σ.length + 1) 0), σ ++ [.tok e' 0] ++ [.cells e [.nilsl (some σ.length)]], frOK_put hf d _, by
      have h1 := hz'.push (.tok e' 0) (fun r h => by cases h)
      have h2 := h1.push (.cells e [.nilsl (some σ.length)]) (fun r h => by cases h)
      simp only [List.length_append, List.length_cons, List.length_nil, Nat.zero_add] at h2
      exact h2, h σ.length (σ.length + 1) hz'.len (Nat.le_succ_of_le hz'.len), fun i l o' σ' hi hr => .op hi (by simp [wantedV, hg]) (v := .ptr (σ.length + 1) 0) (σ' := σ ++ [.tok e' 0] ++ [.cells e [.nilsl (some σ.length)]]) (by rw [hx]; simp [opV, allocV, hz, hu]) (by rw [hd]; exact hr)⟩

theorem W_store {os : Array Oper} {x : Oper} {xs : List Oper} {t : TypeId} {a y : Operand} {b o i : Nat} {v : V} {vs : List V} {e : TypeId} {cs cs' : List V} {n : Nat} (hg : x.guard = none) (hd : x.dst = none) (hx : x.op = .store t a y)
    (ha : evo X.n ρ a = some (.ptr b o)) (hy : evo X.n ρ y = some v) (hi : Z[i]? = some (b, .cells e cs)) (hvs : vcells v = vs) (ht : tsize X.C.P t = n + 1) (hl : vs.length = n + 1) (hn : Nat.ble (o + (n + 1)) cs.length = true) (hok : vs.all cellOK = true) (hc : wr cs o vs = cs')
    {Z' : List (Nat × AObj)} (hZ : zset Z i (.cells e cs') = Z') (h : W X Q (.ops os xs :: k) ρ Z') : W X Q (.ops os (x :: xs) :: k) ρ Z :=
  W_one (ρ' := ρ) (Z' := Z') (fun fr σ hf hz => by
    have hle := Nat.le_of_ble_eq_true hn
    have hw : wr cs o vs = cs.take o ++ vs ++ cs.drop (o + vs.length) := wr_eq cs o vs (by omega)
    refine ⟨fr, σ.set b (.cells e cs'), hf, hZ ▸ hz.set hi (fun r h => by cases h) (fun r h => by cases h), fun i' l o' σ' hi' hr => .op hi' (by simp [wantedV, hg]) (v := V.undef) (σ' := σ.set b (.cells e cs')) ?_ (by rw [hd]; exact hr)⟩
    rw [hx]
    simp only [opV, evo_sound hf ha, evo_sound hf hy, storeV, hvs, hl, ht, wrCells, hz.get hi]
    rw [if_pos ⟨trivial, by omega⟩, if_pos ⟨hle, hok⟩, ← hc, hw, hl]
    rfl) h

/-- A literal of a slice. -/
theorem po_slice {t : TypeId} {len : Nat} {ps : Array (Nat × Operand)} {e : TypeId} {z : V} {n : Nat} {vs : List (Nat × V)} {ys : List V}
    (hown : ∀ d, X.C.own X.f X.m d = false) (hu : X.C.P.underlying t = some (.slice e)) (hz : zeroOf X.C.P e = some z) (ht : tsize X.C.P e = n + 1) (hzl : (vcells z).length = n + 1) (hp : evp X.n ρ ps.toList = some vs) (hl : Nat.ble (len * (n + 1)) 16777216 = true)
    (ha : (vs.all fun p => (vcells p.2).length == n + 1) = true) (hy : listSet (List.replicate len z) vs = some ys) : PureOp X ρ Z (.buildSlice t len ps) (.sl .full ys) := fun d fr σ hf hz' => by
  have h3 := Nat.le_of_ble_eq_true hl
  simp only [hown, opV, evp_sound hf hp, Option.bind_some, buildSliceV, hu, hz, ht, hzl]
  rw [if_pos ⟨trivial, by omega, by simpa using h3, ha⟩]
  simp [hy]

/-! ### Calls -/
theorem W_call {os : Array Oper} {x : Oper} {xs : List Oper} {d : Nat} {fx : Operand} {args : Array Operand} {ts : Array TypeId} {fv v : V} {vs : List V} (hg : x.guard = none) (hd : x.dst = some d) (hx : x.op = .call { callee := .value fx, args := args, argTypes := ts })
    (hraw : X.C.raw X.f X.m d = false) (hfv : evo X.n ρ fx = some fv) (hvs : evl X.n ρ args.toList = some vs) (hr : ∀ σ, Hp X Z σ → Run X.C (.app false fv vs) σ (.val v) σ) (h : W X Q (.ops os xs :: k) (upd ρ d v) Z) : W X Q (.ops os (x :: xs) :: k) ρ Z :=
  W_one (ρ' := upd ρ d v) (Z' := Z) (fun fr σ hf hz => ⟨put fr (some d) v, σ, frOK_put hf d _, hz, fun i l o σ' hi hr' =>
    .call hi (by simp [wantedV, hg]) hx (evo_sound hf hfv) (evl_sound hf hvs) (by rw [hd, Option.getD_some, hraw]; exact hr σ hz) (by rw [hd]; exact hr')⟩) h
/-- A call whose result is not kept. -/
theorem W_call0 {os : Array Oper} {x : Oper} {xs : List Oper} {fx : Operand} {args : Array Operand} {ts : Array TypeId} {fv v : V} {vs : List V} (hg : x.guard = none) (hd : x.dst = none) (hx : x.op = .call { callee := .value fx, args := args, argTypes := ts })
    (hraw : X.C.raw X.f X.m 0 = false) (hfv : evo X.n ρ fx = some fv) (hvs : evl X.n ρ args.toList = some vs) (hr : ∀ σ, Hp X Z σ → Run X.C (.app false fv vs) σ (.val v) σ) (h : W X Q (.ops os xs :: k) ρ Z) : W X Q (.ops os (x :: xs) :: k) ρ Z :=
  W_one (ρ' := ρ) (Z' := Z) (fun fr σ hf hz => ⟨fr, σ, hf, hz, fun i l o σ' hi hr' =>
    .call hi (by simp [wantedV, hg]) hx (evo_sound hf hfv) (evl_sound hf hvs) (by rw [hd, Option.getD_none, hraw]; exact hr σ hz) (by rw [hd]; exact hr')⟩) h

/-! ### Guards -/
def unguard (x : Oper) : Oper := { x with guard := none }
theorem wanted_guard {n : Nat} {os : Array Oper} {x : Oper} {j d : Nat} {want b : Bool} {fr : Fr} (hf : FrOK n ρ fr) (hg : x.guard = some (j, want)) (hj : (os[j]?).bind (·.dst) = some d) (hd : Nat.blt d n = true) (hb : ρ d = .bool b) : wantedV os x fr = (b == want) := by
  have hlt : d < n := Nat.le_of_ble_eq_true hd
  unfold wantedV
  rw [hg]
  simp only [hj, Option.bind_some]
  have h1 := hf.2 d hlt
  rw [hb] at h1
  have hl := hf.1
  have h2 : fr[d]? = some (.bool b) := by
    rw [List.getElem?_eq_getElem (by omega)]
    unfold get at h1
    rw [List.getD_eq_getElem?_getD, List.getElem?_eq_getElem (by omega)] at h1
    exact congrArg some h1
  rw [h2]

/-- It goes ahead. -/
theorem W_yes {os : Array Oper} {x : Oper} {xs : List Oper} {j d : Nat} {want b : Bool} {dst : Nat} {v : V} (hg : x.guard = some (j, want)) (hj : (os[j]?).bind (·.dst) = some d) (hd : Nat.blt d X.n = true) (hb : ρ d = .bool b) (hbw : b = want) (hdst : x.dst = some dst)
    (hv : PureOp X ρ Z x.op v) (h : W X Q (.ops os xs :: k) (upd ρ dst v) Z) : W X Q (.ops os (x :: xs) :: k) ρ Z :=
  W_one (fun fr σ hf hz => ⟨put fr (some dst) v, σ, frOK_put hf dst v, hz, fun i l o σ' hi hr => .op hi (by rw [wanted_guard hf hg hj hd hb, hbw]; simp) (hv _ fr σ hf hz) (by rw [hdst]; exact hr)⟩) h
theorem W_yesCall {os : Array Oper} {x : Oper} {xs : List Oper} {j g : Nat} {want b : Bool} {d : Nat} {fx : Operand} {args : Array Operand} {ts : Array TypeId} {fv v : V} {vs : List V} (hg : x.guard = some (j, want)) (hj : (os[j]?).bind (·.dst) = some g) (hgd : Nat.blt g X.n = true) (hb : ρ g = .bool b) (hbw : b = want)
    (hd : x.dst = some d) (hx : x.op = .call { callee := .value fx, args := args, argTypes := ts })
    (hraw : X.C.raw X.f X.m d = false) (hfv : evo X.n ρ fx = some fv) (hvs : evl X.n ρ args.toList = some vs) (hr : ∀ σ, Hp X Z σ → Run X.C (.app false fv vs) σ (.val v) σ) (h : W X Q (.ops os xs :: k) (upd ρ d v) Z) : W X Q (.ops os (x :: xs) :: k) ρ Z :=
  W_one (ρ' := upd ρ d v) (Z' := Z) (fun fr σ hf hz => ⟨put fr (some d) v, σ, frOK_put hf d _, hz, fun i l o σ' hi hr' =>
    .call hi (by rw [wanted_guard hf hg hj hgd hb, hbw]; simp) hx (evo_sound hf hfv) (evl_sound hf hvs) (by rw [hd, Option.getD_some, hraw]; exact hr σ hz) (by rw [hd]; exact hr')⟩) h
/-- It does not. -/
theorem W_no {os : Array Oper} {x : Oper} {xs : List Oper} {j d : Nat} {want b : Bool} {dst : Nat} (hg : x.guard = some (j, want)) (hj : (os[j]?).bind (·.dst) = some d) (hd : Nat.blt d X.n = true) (hb : ρ d = .bool b) (hbw : b = !want) (hdst : x.dst = some dst)
    (h : W X Q (.ops os xs :: k) (upd ρ dst V.undef) Z) : W X Q (.ops os (x :: xs) :: k) ρ Z :=
  W_one (fun fr σ hf hz => ⟨put fr (some dst) V.undef, σ, frOK_put hf dst _, hz, fun i l o σ' hi hr => .idle hi (by rw [wanted_guard hf hg hj hd hb, hbw]; cases want <;> rfl) (by rw [hdst]; exact hr)⟩) h
theorem W_no0 {os : Array Oper} {x : Oper} {xs : List Oper} {j d : Nat} {want b : Bool} (hg : x.guard = some (j, want)) (hj : (os[j]?).bind (·.dst) = some d) (hd : Nat.blt d X.n = true) (hb : ρ d = .bool b) (hbw : b = !want) (hdst : x.dst = none)
    (h : W X Q (.ops os xs :: k) ρ Z) : W X Q (.ops os (x :: xs) :: k) ρ Z :=
  W_one (fun fr σ hf hz => ⟨fr, σ, hf, hz, fun i l o σ' hi hr => .idle hi (by rw [wanted_guard hf hg hj hd hb, hbw]; cases want <;> rfl) (by rw [hdst]; exact hr)⟩) h

/-! ### A function -/
/-- What a frame hands back, by what is known. -/
def resOf (X : Cx) (ρ : Env) (Z : List (Nat × AObj)) : List ResultVar → List V → Prop
  | [], vs => vs = []
  | .tmp t :: rs, vs => ∃ v vs', vs = v :: vs' ∧ evo X.n ρ (.tmp t) = some v ∧ resOf X ρ Z rs vs'
  | .cell a t :: rs, vs => ∃ v vs', vs = v :: vs' ∧ PureOp X ρ Z (.load t (.tmp a)) v ∧ resOf X ρ Z rs vs'

theorem resOf_sound {fr : Fr} {σ : St} (hf : FrOK X.n ρ fr) (hz : Hp X Z σ) : ∀ {rs : List ResultVar} {vs : List V}, resOf X ρ Z rs vs → resultsL X.C.P fr σ rs = some vs
  | [], vs, h => by rw [show vs = [] from h]; rfl
  | .tmp t :: rs, vs, h => by
    obtain ⟨v, vs', rfl, h1, h2⟩ := h
    have h3 := evo_sound hf h1
    simp only [evalO, Option.some.injEq] at h3
    simp [resultsL, resultV, h3, resOf_sound hf hz h2]
  | .cell a t :: rs, vs, h => by
    obtain ⟨v, vs', rfl, h1, h2⟩ := h
    have h3 := h1 0 fr σ hf hz
    simp only [opV, evalO, Option.bind_some] at h3
    have h4 : loadV X.C.P σ t (get fr a) = some v := by
      cases hl : loadV X.C.P σ t (get fr a) with
      | none => rw [hl] at h3; cases h3
      | some u => rw [hl] at h3; simp at h3; rw [h3]
    simp [resultsL, resultV, h4, resOf_sound hf hz h2]

/-- What a function's end is to be: these results; it leaves what was there as it was. -/
def Ends (X : Cx) (fn : Func) (v : V) (e : Ex) (fr : Fr) (σ : St) : Prop := (e = .normal ∨ e = .ret) ∧ Hp X [] σ ∧ ∃ u, resultsV X.C.P fn fr σ = some u ∧ freeze X.C.P X.σ0.length σ 3 u = some v

theorem ends_of {fn : Func} {fr : Fr} {σ : St} {e : Ex} (he : e = .normal ∨ e = .ret) (hf : FrOK X.n ρ fr) (hz : Hp X Z σ) {rs : List ResultVar} (hrs : fn.results.toList = rs) {vs : List V} {u v : V} (hr : resOf X ρ Z rs vs) (hu : packV vs = u) (hv : ∀ σ, Hp X Z σ → freeze X.C.P X.σ0.length σ 3 u = some v) :
    Ends X fn v e fr σ := ⟨he, hz.less (List.nil_sublist _), u, by unfold resultsV; rw [hrs, resOf_sound hf hz hr]; simp [hu], hv σ hz⟩

/-- A function that leaves all as it was. -/
theorem fn_pure {C : Cfg} {g : FuncId} {fn : Func} {c : Code} {first cap args : List V} {σ : St} {v : V} {n : Nat} (hp : C.isPrim g = false) (hf : C.P.funcs[g]? = some fn) (hb : fn.body = some c) (hn : (fn.name == "runtime.NumGoroutine") = false) (hnt : max fn.ntmps (first ++ args ++ cap).length = n)
    (h : W { C := C, f := g, m := false, rd := none, n := n, σ0 := σ, K := [] } (Ends { C := C, f := g, m := false, rd := none, n := n, σ0 := σ, K := [] } fn v) [.code c] (fun t => (first ++ args ++ cap).getD t V.undef) []) :
    Run C (.app false (.func (.func g) first cap) args) σ (.val v) σ := by
  have hfr : FrOK n (fun t => (first ++ args ++ cap).getD t V.undef) ((first ++ args ++ cap) ++ List.replicate (fn.ntmps - (first ++ args ++ cap).length) V.undef) := by
    refine ⟨by simp only [List.length_append, List.length_replicate] at *; omega, fun t ht => ?_⟩
    generalize first ++ args ++ cap = l
    unfold get
    simp only [List.getD_eq_getElem?_getD]
    rcases Nat.lt_or_ge t l.length with h1 | h1
    · rw [List.getElem?_append_left h1]
    · rw [List.getElem?_append_right h1, List.getElem?_eq_none h1]
      simp only [List.getElem?_replicate]
      split <;> rfl
  have hz : Hp { C := C, f := g, m := false, rd := none, n := n, σ0 := σ, K := [] } [] σ := ⟨by simp, by simp, by simp, Nat.le_refl _, fun _ _ _ => rfl, fun b r hb e => by
    have := (List.getElem?_eq_some_iff.1 e).1
    exact absurd this (Nat.not_lt.2 hb), by simp, trivial, by simp, by simp, fun _ _ _ h => h⟩
  obtain ⟨e, fr', σ', hr, he, hz', u, hu, hv⟩ := h _ σ hfr hz
  have hrun := runK_code hr
  have hold : OldOK σ σ' := fun b o hb ho => .inl (by rw [← hz'.old b hb (by simp)]; exact ho)
  have htake : σ'.take σ.length = σ := by
    apply List.ext_getElem?
    intro i
    rw [List.getElem?_take]
    split
    · rename_i hi; exact hz'.old i hi (by simp)
    · rename_i hi; rw [List.getElem?_eq_none (by omega)]
  have hfin : fin C.P false σ σ' u = (v, σ) := by
    unfold fin
    rw [if_pos ⟨rfl, hold⟩]
    rw [show freeze C.P σ.length σ' 3 u = some v from hv]
    simp [htake]
  have := Run.fn (m := false) hp hf hb hn hrun he hu (by rw [hfin]; exact fun b r h => ⟨r, h⟩)
  rw [hfin] at this
  exact this
end
end Go.Ev

set_option linter.unusedSimpArgs false
set_option linter.unusedVariables false
namespace Go.Ev
section
variable {P : Program} {t : TypeId} {i : TypeInfo} {D : TypeDesc}
theorem info_of (w : World) (h : (typeInfo t).run P w = .ok i w) : P.info? t = some i := by
  unfold typeInfo at h
  simp only [Sem.run_bind] at h
  cases hi : P.info? t with
  | none => simp [hi, program, Sem.run, Result.andThen] at h
  | some j => simp [hi, program, Sem.run, Result.andThen] at h; rw [h]
theorem tsize_of (h : P.info? t = some i) {n : Nat} (hn : i.size = n) : tsize P t = n := by simp [tsize, Program.cellsOf, h, hn]
theorem tbytes_of (h : P.info? t = some i) {n : Nat} (hn : i.bytes = n) : tbytes P t = n := by simp [tbytes, Program.bytesOf, h, hn]
theorem known_of (h : P.underlying t = some D) : knownT P t = true := by simp [knownT, h]
theorem zero_of (h : P.info? t = some i) {z : V} (hz : i.zero.bind ofConst = some z) : zeroOf P t = some z := by simp [zeroOf, h, hz]
theorem zeroOK_of (h : P.info? t = some i) (hz : (i.zero.any fun z => z.cells.size == i.size) = true) : zeroOK P t = true := by simp [zeroOK, h, tsize, Program.cellsOf]; simpa using hz
theorem agg_of (h : P.underlying t = some D) {b : Bool} (hb : (match D with | .struct _ | .array _ _ => true | _ => false) = b) : isAggT P t = b := by
  unfold isAggT
  rw [h]
  subst hb
  cases D <;> rfl
theorem field_of {fs : Array Field} (h : P.underlying t = some (.struct fs)) {k : Nat} {f : Field} (hf : fs[k]? = some f) : fieldOf P t k = some f := by simp [fieldOf, h, hf]
theorem places_of {fs : Array Field} (h : P.underlying t = some (.struct fs)) {l : List (Nat × Nat)} (hl : fs.toList.mapM (fun f => (P.info? f.type).map fun i => (f.offset, i.size)) = some l) : placesOf P t = some fun i => l[i]? := by simp [placesOf, h, hl]
theorem placesA_of {e n : Nat} (h : P.underlying t = some (.array n e)) {ie : TypeInfo} (hi : P.info? e = some ie) {m : Nat} (hm : ie.size = m) : placesOf P t = some fun i => some (i * m, m) := by simp [placesOf, h, hi, hm]
end
end Go.Ev

set_option linter.unusedSimpArgs false
set_option linter.unusedVariables false
namespace Go.Ev

section
variable {P : Program} {fr fr' : Fr} {σ : St} {own : Bool}

theorem evalL_agree : ∀ {l : List Operand}, (∀ x ∈ l, evalO fr x = evalO fr' x) → evalL fr l = evalL fr' l
  | [], _ => rfl
  | x :: l, h => by
    unfold evalL
    rw [h x (by simp), evalL_agree (l := l) fun y hy => h y (by simp [hy])]
theorem evalP_agree : ∀ {l : List (Nat × Operand)}, (∀ x ∈ l.map (·.2), evalO fr x = evalO fr' x) → evalP fr l = evalP fr' l
  | [], _ => rfl
  | (i, x) :: l, h => by
    unfold evalP
    rw [h x (by simp), evalP_agree (l := l) fun y hy => h y (by simp at hy ⊢; exact .inr hy)]
theorem evalM_agree {x : Option Operand} (h : ∀ y ∈ x.toList, evalO fr y = evalO fr' y) : evalM fr x = evalM fr' x := by
  cases x with
  | none => rfl
  | some x => have := h x (by simp); simp [evalM, this]

theorem opV_agree {o : Op} (h : ∀ x ∈ o.operands.toList, evalO fr x = evalO fr' x) : opV P own fr σ o = opV P own fr' σ o := by
  cases o with
  | move x => simp [opV, h x (by simp [Op.operands])]
  | assign x => simp [opV, h x (by simp [Op.operands])]
  | pick c a b => simp [opV, h c (by simp [Op.operands]), h a (by simp [Op.operands]), h b (by simp [Op.operands])]
  | alloc e => rfl
  | box e x => simp [opV, h x (by simp [Op.operands])]
  | build t ps => simp only [opV]; rw [evalP_agree (fr' := fr')]; intro x hx; exact h x (by simpa [Op.operands] using hx)
  | buildSlice t n ps => simp only [opV]; rw [evalP_agree (fr' := fr')]; intro x hx; exact h x (by simpa [Op.operands] using hx)
  | load t x => simp [opV, h x (by simp [Op.operands])]
  | store t a x => simp [opV, h a (by simp [Op.operands]), h x (by simp [Op.operands])]
  | nilCheck x => simp [opV, h x (by simp [Op.operands])]
  | binOp op t x y t' => simp [opV, h x (by simp [Op.operands]), h y (by simp [Op.operands])]
  | unOp op t x => simp [opV, h x (by simp [Op.operands])]
  | convert s d x => simp [opV, h x (by simp [Op.operands])]
  | sliceToArrayPointer t x => simp [opV, h x (by simp [Op.operands])]
  | makeInterface t x => simp [opV, h x (by simp [Op.operands])]
  | makeFunc f a c =>
    cases f with
    | func f =>
      simp only [opV]
      rw [evalL_agree (fr' := fr') (l := a.toList) fun x hx => h x (by simp [Op.operands] at hx ⊢; exact .inl hx), evalL_agree (fr' := fr') (l := c.toList) fun x hx => h x (by simp [Op.operands] at hx ⊢; exact .inr hx)]
    | _ => rfl
  | makeMap t r => cases r <;> rfl
  | makeSlice t l c => simp [opV, h l (by simp [Op.operands]), h c (by simp [Op.operands])]
  | slice t x lo hi mx =>
    simp only [opV]
    rw [h x (by simp [Op.operands]), evalM_agree (fr' := fr') (x := lo) fun y hy => h y (by simp [Op.operands] at hy ⊢; simp [hy]), evalM_agree (fr' := fr') (x := hi) fun y hy => h y (by simp [Op.operands] at hy ⊢; simp [hy]),
      evalM_agree (fr' := fr') (x := mx) fun y hy => h y (by simp [Op.operands] at hy ⊢; simp [hy])]
  | fieldAddr s x f => simp [opV, h x (by simp [Op.operands])]
  | field s x f => simp [opV, h x (by simp [Op.operands])]
  | indexAddr t x i => simp [opV, h x (by simp [Op.operands]), h i (by simp [Op.operands])]
  | index t x i => simp [opV, h x (by simp [Op.operands]), h i (by simp [Op.operands])]
  | lookup t m k ok => simp [opV, h m (by simp [Op.operands]), h k (by simp [Op.operands])]
  | mapUpdate t m k x => simp [opV, h m (by simp [Op.operands]), h k (by simp [Op.operands]), h x (by simp [Op.operands])]
  | insert t m k x => simp [opV, h m (by simp [Op.operands]), h k (by simp [Op.operands]), h x (by simp [Op.operands])]
  | range t x => simp [opV, h x (by simp [Op.operands])]
  | next x b => cases b <;> simp [opV, h x (by simp [Op.operands])]
  | extract x i => simp [opV, h x (by simp [Op.operands])]
  | call c =>
    cases c with
    | mk callee args ts =>
      cases callee with
      | builtin b =>
        simp only [opV]
        rw [evalL_agree (fr' := fr')]
        intro x hx
        exact h x (by simpa [Op.operands, Call.operands] using hx)
      | value x => rfl
      | invoke r n => rfl
  | _ => rfl
end

/-! ### Schedules -/
def afterOf (os : Array Oper) (i : Nat) : List Edge := ((os[i]?).map (·.after.toList)).getD []

/-- An order of operations that the edges let. -/
inductive Path (md : Region.Mode) (os : Array Oper) : List Nat → List Nat → Prop where
  | nil {done} : Path md os done []
  | cons {done i l} : i < os.size → i ∉ done → (∀ e ∈ afterOf os i, Region.binds md e = true → e.on ∈ done) → Path md os (i :: done) l → Path md os done (i :: l)

def Listed (os : Array Oper) (listed : Array Bool) (done : List Nat) : Prop := listed.size = os.size ∧ ∀ i, i < os.size → (listed[i]? = some true ↔ i ∈ done)

def readyAt (md : Region.Mode) (os : Array Oper) (done : List Nat) (i : Nat) : Prop := i < os.size ∧ i ∉ done ∧ ∀ e ∈ afterOf os i, Region.binds md e = true → e.on ∈ done ∧ e.on < os.size

theorem ready_iff {md : Region.Mode} {os : Array Oper} {listed : Array Bool} {done : List Nat} (h : Listed os listed done) {i : Nat} (hi : i < os.size) :
    (!listed.getD i true && ((os[i]?).map (·.after.all fun e => !Region.binds md e || listed.getD e.on false)).getD false) = true ↔ readyAt md os done i := by
  obtain ⟨h1, h2⟩ := h
  have ha : os[i]? = some os[i] := Array.getElem?_eq_getElem hi
  have hg : ∀ j d, listed.getD j d = (listed[j]?).getD d := fun j d => by simp [Array.getD_eq_getD_getElem?]
  have hnd : listed.getD i true = false ↔ i ∉ done := by
    rw [hg, ← h2 i hi]
    have : listed[i]? = some listed[i] := Array.getElem?_eq_getElem (by omega)
    rw [this]
    cases listed[i] <;> simp
  have hed : ∀ e : Edge, listed.getD e.on false = true ↔ e.on ∈ done ∧ e.on < os.size := fun e => by
    rw [hg]
    by_cases he : e.on < os.size
    · rw [← h2 e.on he]
      have : listed[e.on]? = some listed[e.on] := Array.getElem?_eq_getElem (by omega)
      rw [this]
      simp [he]
    · rw [Array.getElem?_eq_none (by omega)]
      simp [he]
  simp only [readyAt, afterOf, ha, Option.map_some, Option.getD_some, Bool.and_eq_true, Bool.not_eq_true', hnd, Array.all_eq_true_iff_forall_mem, Bool.or_eq_true]
  constructor
  · rintro ⟨a, b⟩
    refine ⟨hi, a, fun e he hb => ?_⟩
    rcases b e (by simpa using he) with hc | hc
    · rw [hb] at hc; cases hc
    · exact (hed e).1 hc
  · rintro ⟨_, a, b⟩
    refine ⟨a, fun e he => ?_⟩
    cases hb : Region.binds md e with
    | false => exact .inl rfl
    | true => exact .inr ((hed e).2 (b e (by simpa using he) hb))

theorem go_path {md : Region.Mode} {os : Array Oper} : ∀ (fuel t : Nat) (listed : Array Bool) (done acc : List Nat), Listed os listed done → ∃ l, Region.linearise.go md os fuel t listed acc = acc.reverse ++ l ∧ Path md os done l ∧ (l.length = fuel ∨ (l.length < fuel ∧ ∀ i, ¬ readyAt md os (l.reverse ++ done) i))
  | 0, t, listed, done, acc, h => ⟨[], by simp [Region.linearise.go], .nil, .inl rfl⟩
  | fuel + 1, t, listed, done, acc, h => by
    unfold Region.linearise.go
    simp only
    split
    · rename_i i hi
      have hm := List.mem_of_getElem? hi
      simp only [List.mem_filter, List.mem_range] at hm
      have hr := (ready_iff (md := md) h hm.1).1 hm.2
      obtain ⟨l, h1, h2, h3⟩ := go_path (md := md) (os := os) fuel (t / ((List.range os.size).filter fun i => !listed.getD i true && ((os[i]?).map (·.after.all fun e => !Region.binds md e || listed.getD e.on false)).getD false).length) (listed.setIfInBounds i true) (i :: done) (i :: acc) ⟨by simp [h.1], fun j hj => by
        rw [Array.getElem?_setIfInBounds]
        by_cases e : i = j
        · subst e; simp [h.1, hj]
        · rw [if_neg e, h.2 j hj]; simp [Ne.symm e]⟩
      refine ⟨i :: l, by rw [h1]; simp, .cons hr.1 hr.2.1 (fun e he hb => (hr.2.2 e he hb).1) h2, ?_⟩
      rcases h3 with h3 | ⟨h3, h4⟩
      · left; simp [h3]
      · right; exact ⟨by simp [h3], fun j => by simpa using h4 j⟩
    · rename_i hn
      refine ⟨[], by simp, .nil, .inr ⟨by simp, fun i hr => ?_⟩⟩
      have hr : readyAt md os done i := by simpa using hr
      have hm : i ∈ (List.range os.size).filter fun i => !listed.getD i true && ((os[i]?).map (·.after.all fun e => !Region.binds md e || listed.getD e.on false)).getD false := by
        rw [List.mem_filter]
        exact ⟨List.mem_range.2 hr.1, (ready_iff h hr.1).2 hr⟩
      have hpos := List.length_pos_of_mem hm
      rw [List.getElem?_eq_getElem (Nat.mod_lt _ hpos)] at hn
      cases hn

theorem path_nodup {md : Region.Mode} {os : Array Oper} : ∀ {l done : List Nat}, Path md os done l → done.Nodup → (l.reverse ++ done).Nodup
  | [], done, _, h => by simpa using h
  | i :: l, done, .cons h1 h2 h3 h4, h => by
    have := path_nodup h4 (List.nodup_cons.2 ⟨h2, h⟩)
    simpa using this

theorem path_lt {md : Region.Mode} {os : Array Oper} : ∀ {l done : List Nat}, Path md os done l → ∀ i ∈ l, i < os.size
  | [], _, _ => by simp
  | i :: l, done, .cons h1 h2 h3 h4 => fun j hj => by
    rcases List.mem_cons.1 hj with rfl | hj
    · exact h1
    · exact path_lt h4 j hj

/-- The first of a whole order that is not done yet is ready. -/
theorem ready_of_path {md : Region.Mode} {os : Array Oper} : ∀ {l pre : List Nat} {done : List Nat}, Path md os pre l → (∀ i ∈ pre, i ∈ done ∧ i < os.size) → (∃ i ∈ l, i ∉ done) → ∃ i, readyAt md os done i
  | [], _, _, _, _, h => by obtain ⟨i, h, _⟩ := h; simp at h
  | i :: l, pre, done, .cons h1 h2 h3 h4, hp, h => by
    by_cases hi : i ∈ done
    · refine ready_of_path h4 (fun j hj => ?_) ?_
      · rcases List.mem_cons.1 hj with rfl | hj
        · exact ⟨hi, h1⟩
        · exact hp j hj
      · obtain ⟨j, hj, hjd⟩ := h
        rcases List.mem_cons.1 hj with rfl | hj
        · exact absurd hi hjd
        · exact ⟨j, hj, hjd⟩
    · exact ⟨i, h1, hi, fun e he hb => hp _ (h3 e he hb)⟩

theorem nodup_le : ∀ {l l' : List Nat}, l.Nodup → l ⊆ l' → l.length ≤ l'.length
  | [], _, _, _ => by simp
  | i :: l, l', hn, hs => by
    have hn' := List.nodup_cons.1 hn
    have hm : i ∈ l' := hs (by simp)
    have := nodup_le (l' := l'.erase i) hn'.2 fun j hj => (List.mem_erase_of_ne (by rintro rfl; exact hn'.1 hj)).2 (hs (by simp [hj]))
    rw [List.length_erase_of_mem hm] at this
    have := List.length_pos_of_mem hm
    simp only [List.length_cons]
    omega

theorem full_of {n : Nat} {l : List Nat} (hn : l.Nodup) (hl : ∀ i ∈ l, i < n) (hlen : l.length = n) : ∀ i, i < n → i ∈ l := fun i hi => by
  refine Classical.byContradiction fun h => ?_
  have h1 : (i :: l).Nodup := List.nodup_cons.2 ⟨h, hn⟩
  have h2 : (i :: l) ⊆ List.range n := fun j hj => by
    rcases List.mem_cons.1 hj with rfl | hj
    · exact List.mem_range.2 hi
    · exact List.mem_range.2 (hl j hj)
  have := nodup_le h1 h2
  simp at this
  omega

/-- Every order is whole if one is. -/
theorem linearise_path {md : Region.Mode} {os : Array Oper} {l0 : List Nat} (a2 : Path md os [] l0) (h0 : l0.length = os.size) (t : Nat) : Path md os [] (Region.linearise md os t) ∧ (Region.linearise md os t).length = os.size := by
  have hl : Listed os (Array.replicate os.size false) [] := ⟨by simp, fun i hi => by simp [hi]⟩
  obtain ⟨l, b1, b2, b3⟩ := go_path (md := md) os.size t _ [] [] hl
  have e : Region.linearise md os t = l := by unfold Region.linearise; rw [b1]; simp
  rw [e]
  refine ⟨b2, ?_⟩
  rcases b3 with b3 | ⟨b3, b4⟩
  · exact b3
  · exfalso
    have hn0 := path_nodup a2 List.nodup_nil
    have hn0 : l0.Nodup := (List.reverse_perm l0).nodup_iff.1 (by simpa using hn0)
    have : ∃ i ∈ l0, i ∉ l.reverse ++ [] := by
      refine Classical.byContradiction fun hc => ?_
      have hsub : l0 ⊆ l := fun i hi => by
        refine Classical.byContradiction fun h => hc ⟨i, hi, by simpa using h⟩
      have := nodup_le hn0 hsub
      omega
    obtain ⟨i, hi⟩ := ready_of_path (done := l.reverse ++ []) a2 (by simp) this
    exact b4 i hi
end Go.Ev

set_option linter.unusedSimpArgs false
set_option linter.unusedVariables false
namespace Go.Ev

def tmpOf : Operand → Option Nat
  | .tmp t => some t
  | _ => none
def opTmps (x : Oper) : List Nat := x.op.operands.toList.filterMap tmpOf
def dstAt (os : Array Oper) (j : Nat) : Option Nat := (os[j]?).bind (·.dst)
def guardTmps (os : Array Oper) (x : Oper) : List Nat :=
  match x.guard with
  | some (j, _) => (dstAt os j).toList
  | none => []
def hard (e : Edge) : Bool := match e.ground with | .textOnly _ | .gcOnly _ => false | _ => true
theorem hard_binds {md : Region.Mode} {e : Edge} (h : hard e = true) : Region.binds md e = true := by
  unfold hard at h
  unfold Region.binds
  cases hg : e.ground <;> simp_all

/-- What an operation reads is made ahead of it. -/
def dataOK (os : Array Oper) : Bool :=
  (List.range os.size).all fun i => match os[i]? with
    | some x => (opTmps x ++ guardTmps os x).all fun t => (List.range os.size).all fun j => !(dstAt os j == some t) || (Nat.blt j i && (afterOf os i).any fun e => Nat.beq e.on j && hard e)
    | none => false
/-- No two make the same. -/
def dstOK (os : Array Oper) : Bool := (List.range os.size).all fun i => (List.range os.size).all fun j => Nat.beq i j || (dstAt os i).isNone || !(dstAt os i == dstAt os j)
def grow (os : Array Oper) (l : List Nat) : List Nat := (l ++ l.flatMap fun i => ((afterOf os i).filter hard).map (·.on)).eraseDups
def clo (os : Array Oper) : Nat → List Nat → List Nat
  | 0, l => l
  | n + 1, l => clo os n (grow os l)
/-- All others are ahead of the last. -/
def lastOK (os : Array Oper) (w : Nat) : Bool := Nat.beq (w + 1) os.size && (List.range w).all fun i => (clo os 4 (((afterOf os w).filter hard).map (·.on))).contains i
def pathB (md : Region.Mode) (os : Array Oper) : List Nat → List Nat → Bool
  | _, [] => true
  | done, i :: l => Nat.blt i os.size && !done.contains i && ((afterOf os i).all fun e => !Region.binds md e || done.contains e.on) && pathB md os (i :: done) l
theorem path_of {md : Region.Mode} {os : Array Oper} : ∀ {l done : List Nat}, pathB md os done l = true → Path md os done l
  | [], _, _ => .nil
  | i :: l, done, h => by
    simp only [pathB, Bool.and_eq_true] at h
    obtain ⟨⟨⟨h1, h2⟩, h3⟩, h4⟩ := h
    refine .cons (Nat.le_of_ble_eq_true h1) (by simpa using h2) (fun e he hb => ?_) (path_of h4)
    have := List.all_eq_true.1 h3 e he
    rw [hb] at this
    simpa using this
/-- One order each way is whole. -/
def wholeBy (os : Array Oper) (a b c : List Nat) : Bool := pathB .any os [] a && pathB .text os [] b && pathB .gc os [] c && Nat.beq a.length os.size && Nat.beq b.length os.size && Nat.beq c.length os.size
def wholeOK (os : Array Oper) : Bool := wholeBy os (List.range os.size) (List.range os.size) (List.range os.size)

theorem schedule_path {os : Array Oper} {a b c : List Nat} (h : wholeBy os a b c = true) (mixed : Bool) (t : Nat) : ∃ md, Path md os [] (Region.schedule mixed os t) ∧ (Region.schedule mixed os t).length = os.size := by
  simp only [wholeBy, Bool.and_eq_true] at h
  obtain ⟨⟨⟨⟨⟨h1, h2⟩, h3⟩, h4⟩, h5⟩, h6⟩ := h
  have h4 := Nat.eq_of_beq_eq_true h4
  have h5 := Nat.eq_of_beq_eq_true h5
  have h6 := Nat.eq_of_beq_eq_true h6
  unfold Region.schedule
  split
  · exact ⟨_, linearise_path (path_of h1) h4 t⟩
  · split
    · exact ⟨_, linearise_path (path_of h2) h5 _⟩
    · exact ⟨_, linearise_path (path_of h3) h6 _⟩

section
variable {X : Cx} {Q : Ex → Fr → St → Prop} {k : List Itm} {ρ ρ' : Env} {Z : List (Nat × AObj)} {os : Array Oper}

def wantE (n : Nat) (os : Array Oper) (x : Oper) (ρ : Env) : Option Bool :=
  match x.guard with
  | none => some true
  | some (j, want) =>
    match dstAt os j with
    | some d => bif Nat.blt d n then (match ρ d with | .bool b => some (b == want) | _ => none) else none
    | none => none

inductive StepV (X : Cx) (ρ : Env) (Z : List (Nat × AObj)) (os : Array Oper) (x : Oper) : V → Prop where
  | pure {v} : wantE X.n os x ρ = some true → PureOp X ρ Z x.op v → StepV X ρ Z os x v
  | call {fx args ts fv vs v} : wantE X.n os x ρ = some true → x.op = .call { callee := .value fx, args := args, argTypes := ts } → (∀ d, X.C.raw X.f X.m d = false) → evo X.n ρ fx = some fv → evl X.n ρ args.toList = some vs →
      (∀ σ, Hp X Z σ → Run X.C (.app false fv vs) σ (.val v) σ) → StepV X ρ Z os x v
  | idle : wantE X.n os x ρ = some false → StepV X ρ Z os x V.undef

theorem want_sound {fr : Fr} (hf : FrOK X.n ρ fr) {x : Oper} {b : Bool} (h : wantE X.n os x ρ = some b) : wantedV os x fr = b := by
  unfold wantE at h
  split at h
  · rename_i hg; cases h; simp [wantedV, hg]
  · rename_i j want hg
    split at h
    · rename_i d hd
      cases hb : Nat.blt d X.n with
      | false => rw [hb] at h; cases h
      | true =>
        rw [hb] at h
        simp only [cond_true] at h
        split at h
        · rename_i c hc
          cases h
          exact wanted_guard hf hg hd hb hc
        · cases h
    · cases h

theorem evo_agree {n : Nat} {x : Operand} (h : ∀ t, tmpOf x = some t → ρ t = ρ' t) : evo n ρ x = evo n ρ' x := by
  cases x with
  | tmp t => simp [evo, h t rfl]
  | _ => rfl
theorem evl_agree {n : Nat} : ∀ {l : List Operand}, (∀ t ∈ l.filterMap tmpOf, ρ t = ρ' t) → evl n ρ l = evl n ρ' l
  | [], _ => rfl
  | x :: l, h => by
    unfold evl
    rw [evo_agree (x := x) fun t ht => h t (by simp [ht]), evl_agree (l := l) fun t ht => h t (by
      rw [List.mem_filterMap] at ht ⊢
      obtain ⟨a, h1, h2⟩ := ht
      exact ⟨a, by simp [h1], h2⟩)]

theorem StepV.agree {x : Oper} {v : V} (h : StepV X ρ Z os x v) (ha : ∀ t ∈ opTmps x ++ guardTmps os x, ρ t = ρ' t) : StepV X ρ' Z os x v := by
  have hw : wantE X.n os x ρ' = wantE X.n os x ρ := by
    unfold wantE
    cases hg : x.guard with
    | none => rfl
    | some jw =>
      obtain ⟨j, want⟩ := jw
      simp only
      cases hd : dstAt os j with
      | none => rfl
      | some d => simp only; rw [ha d (by simp [guardTmps, hg, hd])]
  have ho : ∀ t ∈ opTmps x, ρ t = ρ' t := fun t ht => ha t (by simp [ht])
  cases h with
  | pure h1 h2 =>
    refine .pure (hw.trans h1) fun own fr σ hf hz => ?_
    have hf1 : FrOK X.n ρ ((List.range X.n).map ρ) := ⟨by simp, fun t ht => by simp [get, List.getD_eq_getElem?_getD, ht]⟩
    rw [← h2 own _ σ hf1 hz]
    refine opV_agree fun y hy => ?_
    cases y with
    | tmp t =>
      simp only [evalO]
      by_cases ht : t < X.n
      · rw [hf.2 t ht, hf1.2 t ht, ho t (by unfold opTmps; rw [List.mem_filterMap]; exact ⟨_, hy, rfl⟩)]
      · have e1 := hf.1
        have e2 := hf1.1
        unfold get
        rw [List.getD_eq_getElem?_getD, List.getD_eq_getElem?_getD, List.getElem?_eq_none (by rw [e1]; exact Nat.le_of_not_lt ht), List.getElem?_eq_none (by rw [e2]; exact Nat.le_of_not_lt ht)]
    | _ => rfl
  | call h1 h2 h3 h4 h5 h6 =>
    rename_i fx args ts fv vs
    have hop : x.op.operands.toList = fx :: args.toList := by rw [h2]; simp [Op.operands, Call.operands]
    refine .call (hw.trans h1) h2 h3 ((evo_agree fun t ht => ?_).trans h4) ((evl_agree fun t ht => ?_).trans h5) h6
    · exact (ho t (by unfold opTmps; rw [hop]; simp [ht])).symm
    · refine (ho t ?_).symm
      unfold opTmps
      rw [hop, List.mem_filterMap]
      rw [List.mem_filterMap] at ht
      obtain ⟨a, h1, h2⟩ := ht
      exact ⟨a, by simp [h1], h2⟩
  | idle h1 => exact .idle (hw.trans h1)

theorem StepV.run {x : Oper} {v : V} (h : StepV X ρ Z os x v) {fr : Fr} {σ : St} (hf : FrOK X.n ρ fr) (hz : Hp X Z σ) {d i : Nat} (hi : os[i]? = some x) (hd : x.dst = some d) {l : List Nat} {o : Out} {σ' : St}
    (hr : Run X.C (.ops X.f X.m os l (put fr (some d) v)) σ o σ') : Run X.C (.ops X.f X.m os (i :: l) fr) σ o σ' := by
  cases h with
  | pure h1 h2 => exact .op hi (want_sound hf h1) (h2 _ fr σ hf hz) (by rw [hd]; exact hr)
  | call h1 h2 h3 h4 h5 h6 => exact .call hi (want_sound hf h1) h2 (evo_sound hf h4) (evl_sound hf h5) (by rw [h3]; exact h6 σ hz) (by rw [hd]; exact hr)
  | idle h1 => exact .idle hi (want_sound hf h1) (by rw [hd]; exact hr)

/-- Pure operations in their own order. -/
inductive DrawSteps (X : Cx) (Z : List (Nat × AObj)) (os : Array Oper) : Env → List Oper → Env → Prop where
  | nil {r} : DrawSteps X Z os r [] r
  | cons {r x xs d v r'} : x.dst = some d → StepV X r Z os x v → DrawSteps X Z os (upd r d v) xs r' → DrawSteps X Z os r (x :: xs) r'

theorem upd_ne {t d : Nat} {v : V} (h : t ≠ d) : upd ρ d v t = ρ t := by
  unfold upd
  have : Nat.beq t d = false := by rw [Bool.eq_false_iff]; intro e; exact h (Nat.eq_of_beq_eq_true e)
  rw [this]; rfl
theorem upd_eq {d : Nat} {v : V} : upd ρ d v d = v := by simp [upd]

/-- What they leave untouched. -/
theorem DrawSteps.keep {xs : List Oper} (h : DrawSteps X Z os ρ xs ρ') {t : Nat} (ht : ∀ x ∈ xs, x.dst ≠ some t) : ρ' t = ρ t := by
  induction h with
  | nil => rfl
  | cons hd hs _ ih => rw [ih fun x hx => ht x (by simp [hx]), upd_ne (fun e => ht _ (by simp) (e ▸ hd))]

/-- Each step, at the end's frame. -/
theorem DrawSteps.all (hdst : dstOK os = true) (hdata : ∀ i j t x, os[i]? = some x → t ∈ opTmps x ++ guardTmps os x → dstAt os j = some t → j < i) : ∀ {xs : List Oper} {ρ : Env} (s : Nat), DrawSteps X Z os ρ xs ρ' → (∀ (i : Nat) x, xs[i]? = some x → os[s + i]? = some x) →
    ∀ (i : Nat) x, xs[i]? = some x → ∃ d, x.dst = some d ∧ StepV X ρ' Z os x (ρ' d)
  | [], ρ, s, _, _, i, x, hx => by simp at hx
  | y :: ys, ρ, s, .cons (d := d) (v := v) hd hs h, hos, i, x, hx => by
    have hos' : ∀ (i : Nat) x, ys[i]? = some x → os[s + 1 + i]? = some x := fun i x h => by
      have := hos (i + 1) x (by simpa using h)
      rwa [show s + (i + 1) = s + 1 + i by omega] at this
    have hy : os[s]? = some y := hos 0 y rfl
    have dist : ∀ (j : Nat) z, ys[j]? = some z → z.dst ≠ some d := fun j z hz e => by
      have h1 := hos' j z hz
      have hj := (Array.getElem?_eq_some_iff.1 h1).1
      have hs' := (Array.getElem?_eq_some_iff.1 hy).1
      unfold dstOK at hdst
      have := List.all_eq_true.1 (List.all_eq_true.1 hdst s (List.mem_range.2 hs')) (s + 1 + j) (List.mem_range.2 hj)
      have hne : Nat.beq s (s + 1 + j) = false := by rw [Bool.eq_false_iff]; intro e; have := Nat.eq_of_beq_eq_true e; omega
      simp [hne, dstAt, hy, h1, hd, e] at this
    cases i with
    | zero =>
      simp at hx
      subst hx
      refine ⟨d, hd, ?_⟩
      have hk : ρ' d = v := by
        rw [h.keep fun z hz => ?_, upd_eq]
        obtain ⟨j, hj⟩ := List.getElem?_of_mem hz
        exact dist j z hj
      rw [hk]
      refine hs.agree fun t ht => ?_
      have hx1 : ∀ z ∈ ys, z.dst ≠ some t := fun z hz e => by
        obtain ⟨j, hj⟩ := List.getElem?_of_mem hz
        have h1 := hos' j z hj
        have := hdata s (s + 1 + j) t y hy ht (by simp [dstAt, h1, e])
        omega
      have hx2 : t ≠ d := fun e => by
        have := hdata s s t y hy ht (by simp [dstAt, hy, hd, e])
        omega
      rw [h.keep hx1, upd_ne hx2]
    | succ i => exact DrawSteps.all hdst hdata (s + 1) h hos' i x (by simpa using hx)

open Classical in
/-- The frame when some are done. -/
noncomputable def ρAt (os : Array Oper) (m : Nat) (ρ ρ' : Env) (done : List Nat) : Env := fun t => if ∃ j ∈ done, j < m ∧ dstAt os j = some t then ρ' t else ρ t

theorem draw_run {m : Nat} {md : Region.Mode} (hdata : dataOK os = true) (hst : ∀ i, i < m → ∃ x d, os[i]? = some x ∧ x.dst = some d ∧ StepV X ρ' Z os x (ρ' d)) (hout : ∀ t, (∀ j, j < m → dstAt os j ≠ some t) → ρ' t = ρ t)
    (hm : m ≤ os.size) {σ : St} (hz : Hp X Z σ) {o : Out} {σ2 : St} {tail : List Nat} (hr : Run X.C (.ops X.f X.m os tail ((List.range X.n).map ρ')) σ o σ2) :
    ∀ (l done : List Nat) (fr : Fr), Path md os done (l ++ tail) → (∀ i ∈ l, i < m) → (∀ i, i < m → i ∈ done ∨ i ∈ l) → FrOK X.n (ρAt os m ρ ρ' done) fr → Run X.C (.ops X.f X.m os (l ++ tail) fr) σ o σ2
  | [], done, fr, hp, hl, hall, hf => by
    have : fr = (List.range X.n).map ρ' := by
      refine List.ext_getElem (by simp [hf.1]) fun t h1 h2 => ?_
      have ht : t < X.n := by rw [← hf.1]; exact h1
      have := hf.2 t ht
      unfold get at this
      rw [List.getD_eq_getElem?_getD, List.getElem?_eq_getElem h1, Option.getD_some] at this
      rw [this]
      simp only [List.getElem_map, List.getElem_range, ρAt]
      split
      · rfl
      · rename_i hn
        exact (hout t fun j hj e => hn ⟨j, by simpa using hall j hj, hj, e⟩).symm
    rw [this]
    exact hr
  | i :: l, done, fr, .cons h1 h2 h3 h4, hl, hall, hf => by
    have him := hl i (by simp)
    obtain ⟨x, d, hx, hd, hs⟩ := hst i him
    have hs' : StepV X (ρAt os m ρ ρ' done) Z os x (ρ' d) := hs.agree fun t ht => by
      unfold ρAt
      split
      · rfl
      · rename_i hn
        refine hout t fun j hj e => hn ⟨j, ?_, hj, e⟩
        unfold dataOK at hdata
        have h5 := List.all_eq_true.1 hdata i (List.mem_range.2 h1)
        rw [hx] at h5
        have h6 := List.all_eq_true.1 (List.all_eq_true.1 h5 t ht) j (List.mem_range.2 (by omega))
        simp only [e, beq_self_eq_true, Bool.not_true, Bool.false_or, List.any_eq_true, Bool.and_eq_true] at h6
        obtain ⟨_, ed, he, he1, he2⟩ := h6
        have := h3 ed he (hard_binds he2)
        rwa [Nat.eq_of_beq_eq_true he1] at this
    refine hs'.run hf hz hx hd (draw_run hdata hst hout hm hz hr l (i :: done) _ h4 (fun j hj => hl j (by simp [hj])) (fun j hj => ?_) ?_)
    · rcases hall j hj with h | h
      · exact .inl (by simp [h])
      · rcases List.mem_cons.1 h with rfl | h
        · exact .inl (by simp)
        · exact .inr h
    · have := frOK_put hf d (ρ' d)
      refine ⟨this.1, fun t ht => (this.2 t ht).trans ?_⟩
      have hdi : dstAt os i = some d := by simp [dstAt, hx, hd]
      by_cases e : t = d
      · subst e
        rw [upd_eq]
        unfold ρAt
        rw [if_pos ⟨i, by simp, him, hdi⟩]
      · rw [upd_ne e]
        unfold ρAt
        by_cases h : ∃ j ∈ done, j < m ∧ dstAt os j = some t
        · obtain ⟨j, h5, h6⟩ := h
          rw [if_pos ⟨j, h5, h6⟩, if_pos ⟨j, by simp [h5], h6⟩]
        · rw [if_neg h, if_neg]
          rintro ⟨j, h5, h6, h7⟩
          rcases List.mem_cons.1 h5 with rfl | h5
          · rw [hdi] at h7; exact e (Option.some.inj h7).symm
          · exact h ⟨j, h5, h6, h7⟩

theorem data_of (h : dataOK os = true) : ∀ i j t x, os[i]? = some x → t ∈ opTmps x ++ guardTmps os x → dstAt os j = some t → j < i := fun i j t x hx ht hj => by
  unfold dataOK at h
  have hi := (Array.getElem?_eq_some_iff.1 hx).1
  have hjl : j < os.size := by
    unfold dstAt at hj
    rcases Nat.lt_or_ge j os.size with h1 | h1
    · exact h1
    · rw [Array.getElem?_eq_none h1] at hj; cases hj
  have h5 := List.all_eq_true.1 h i (List.mem_range.2 hi)
  rw [hx] at h5
  have h6 := List.all_eq_true.1 (List.all_eq_true.1 h5 t ht) j (List.mem_range.2 hjl)
  simp only [hj, beq_self_eq_true, Bool.not_true, Bool.false_or, Bool.and_eq_true] at h6
  exact Nat.le_of_ble_eq_true h6.1

/-- A drawn region, up to its last operation. -/
theorem draw_all {xs : List Oper} {tl : List Oper} (hx : os.toList = xs ++ tl) (hs : DrawSteps X Z os ρ xs ρ') (hdst : dstOK os = true) (hdata : dataOK os = true) {σ : St} (hz : Hp X Z σ) {o : Out} {σ2 : St} {tail : List Nat}
    (hr : Run X.C (.ops X.f X.m os tail ((List.range X.n).map ρ')) σ o σ2) {md : Region.Mode} {l : List Nat} (hp : Path md os [] (l ++ tail)) (hl : ∀ i ∈ l, i < xs.length) (hall : ∀ i, i < xs.length → i ∈ l) {fr : Fr} (hf : FrOK X.n ρ fr) :
    Run X.C (.ops X.f X.m os (l ++ tail) fr) σ o σ2 := by
  have hget : ∀ (i : Nat) x, xs[i]? = some x → os[0 + i]? = some x := fun i x h => by
    rw [Nat.zero_add, ← Array.getElem?_toList, hx, List.getElem?_append_left (List.getElem?_eq_some_iff.1 h).1, h]
  have hsz : os.size = xs.length + tl.length := by rw [← Array.length_toList, hx]; simp
  have hst := DrawSteps.all hdst (data_of hdata) 0 hs hget
  refine draw_run (ρ := ρ) (m := xs.length) hdata (fun i hi => ?_) (fun t ht => ?_) (by omega) hz hr l [] fr hp hl (fun i hi => .inr (hall i hi)) ?_
  · have hi' : xs[i]? = some xs[i] := List.getElem?_eq_getElem hi
    obtain ⟨d, h1, h2⟩ := hst i _ hi'
    exact ⟨_, d, by simpa using hget i _ hi', h1, h2⟩
  · refine hs.keep fun x hx' e => ?_
    obtain ⟨j, hj⟩ := List.getElem?_of_mem hx'
    exact ht j (List.getElem?_eq_some_iff.1 hj).1 (by have := hget j x hj; rw [Nat.zero_add] at this; simp [dstAt, this, e])
  · refine ⟨hf.1, fun t ht => (hf.2 t ht).trans ?_⟩
    unfold ρAt
    simp

theorem frOK_map {n : Nat} : FrOK n ρ ((List.range n).map ρ) := ⟨by simp, fun t ht => by simp [get, List.getD_eq_getElem?_getD, ht]⟩

theorem W_drawnP {id : Nat} {xs : List Oper} (hx : os.toList = xs) (hdst : dstOK os = true) (hdata : dataOK os = true) (hw : wholeOK os = true) (hs : DrawSteps X Z os ρ xs ρ') (h : W X Q k ρ' Z) : W X Q (.code (.region id os true) :: k) ρ Z := fun fr σ hf hz => by
  obtain ⟨e, fr', σ', hr, hq⟩ := h _ σ frOK_map hz
  refine ⟨e, fr', σ', .codeN (.regionD fun t => ?_) hr, hq⟩
  obtain ⟨md, hp, hlen⟩ := schedule_path hw (X.C.P.follows .mixedOrders) t
  have hsz : os.size = xs.length := by rw [← hx]; simp
  have hn : (Region.schedule (X.C.P.follows .mixedOrders) os t).Nodup := (List.reverse_perm _).nodup_iff.1 (by simpa using path_nodup hp List.nodup_nil)
  have hlt := path_lt hp
  have := draw_all (tl := []) (by rw [hx]; simp) hs hdst hdata hz (tail := []) (.nil) (l := Region.schedule (X.C.P.follows .mixedOrders) os t) (by simpa using hp) (fun i hi => hsz ▸ hlt i hi) (fun i hi => full_of hn hlt hlen i (hsz ▸ hi)) hf
  simpa using this

theorem clo_sub {md : Region.Mode} {done : List Nat} (hc : ∀ i ∈ done, ∀ e ∈ afterOf os i, Region.binds md e = true → e.on ∈ done) : ∀ (n : Nat) (l : List Nat), (∀ i ∈ l, i ∈ done) → ∀ i ∈ clo os n l, i ∈ done
  | 0, l, h => h
  | n + 1, l, h => clo_sub hc n _ fun i hi => by
    unfold grow at hi
    rw [List.mem_eraseDups, List.mem_append, List.mem_flatMap] at hi
    rcases hi with hi | ⟨j, hj, hi⟩
    · exact h i hi
    · obtain ⟨e, he, rfl⟩ := List.mem_map.1 hi
      rw [List.mem_filter] at he
      exact hc j (h j hj) e he.1 (hard_binds he.2)

theorem path_split {md : Region.Mode} : ∀ {l done : List Nat} {w : Nat}, Path md os done l → (∀ i ∈ done, ∀ e ∈ afterOf os i, Region.binds md e = true → e.on ∈ done) → w ∈ l →
    ∃ a b, l = a ++ w :: b ∧ (∀ i ∈ a.reverse ++ done, ∀ e ∈ afterOf os i, Region.binds md e = true → e.on ∈ a.reverse ++ done) ∧ ∀ e ∈ afterOf os w, Region.binds md e = true → e.on ∈ a.reverse ++ done
  | [], _, _, _, _, h => by simp at h
  | i :: l, done, w, .cons h1 h2 h3 h4, hc, h => by
    by_cases hi : i = w
    · subst hi
      exact ⟨[], l, rfl, by simpa using hc, by simpa using h3⟩
    · have hw : w ∈ l := by rcases List.mem_cons.1 h with h | h; · exact absurd h.symm hi
                            · exact h
      obtain ⟨a, b, rfl, h5, h6⟩ := path_split h4 (fun j hj e he hb => by
        rcases List.mem_cons.1 hj with rfl | hj
        · exact List.mem_cons_of_mem _ (h3 e he hb)
        · exact List.mem_cons_of_mem _ (hc j hj e he hb)) hw
      refine ⟨i :: a, b, rfl, ?_, ?_⟩
      · simpa [List.append_assoc] using h5
      · simpa [List.append_assoc] using h6

theorem W_drawnL {id : Nat} {xs : List Oper} {w : Oper} (hx : os.toList = xs ++ [w]) (hdst : dstOK os = true) (hdata : dataOK os = true) (hw : wholeOK os = true) (hlast : lastOK os xs.length = true) (hs : DrawSteps X Z os ρ xs ρ') (h : W X Q (.ops os [w] :: k) ρ' Z) :
    W X Q (.code (.region id os true) :: k) ρ Z := fun fr σ hf hz => by
  obtain ⟨e, fr', σ', hr, hq⟩ := h _ σ frOK_map hz
  cases hr with
  | ops h1 h2 =>
    refine ⟨e, fr', σ', .codeN (.regionD fun t => ?_) h2, hq⟩
    obtain ⟨md, hp, hlen⟩ := schedule_path hw (X.C.P.follows .mixedOrders) t
    generalize Region.schedule (X.C.P.follows .mixedOrders) os t = L at hp hlen
    have hsz : os.size = xs.length + 1 := by rw [← Array.length_toList, hx]; simp
    have hn : L.Nodup := (List.reverse_perm _).nodup_iff.1 (by simpa using path_nodup hp List.nodup_nil)
    have hlt := path_lt hp
    have hfull := full_of hn hlt hlen
    obtain ⟨a, b, rfl, h5, h6⟩ := path_split hp (by simp) (hfull xs.length (by omega))
    simp only [List.append_nil] at h5 h6
    simp only [lastOK, Bool.and_eq_true] at hlast
    have hall : ∀ i, i < xs.length → i ∈ a := fun i hi => by
      have h7 := List.all_eq_true.1 hlast.2 i (List.mem_range.2 hi)
      have h8 := clo_sub (os := os) (md := md) (done := a.reverse) h5 4 _ (fun j hj => by
        obtain ⟨e, he, rfl⟩ := List.mem_map.1 hj
        rw [List.mem_filter] at he
        exact h6 e he.1 (hard_binds he.2)) i (by simpa using h7)
      simpa using h8
    have hb : b = [] := by
      cases b with
      | nil => rfl
      | cons j b =>
        exfalso
        have hj := hlt j (by simp)
        have hnj : j ≠ xs.length := by
          rintro rfl
          rw [List.nodup_append] at hn
          have := hn.2.1
          simp at this
        have := hall j (by omega)
        rw [List.nodup_append] at hn
        exact hn.2.2 j this j (by simp) rfl
    subst hb
    have hna : ∀ i ∈ a, i < xs.length := fun i hi => by
      have h7 := hlt i (by simp [hi])
      have : i ≠ xs.length := by
        rintro rfl
        rw [List.nodup_append] at hn
        exact hn.2.2 _ hi _ (by simp) rfl
      omega
    refine draw_all (tl := [w]) hx hs hdst hdata hz (tail := [xs.length]) (h1 [xs.length] ?_) hp hna hall hf
    simp only [Laid, List.map_cons, List.map_nil]
    rw [← Array.getElem?_toList, hx]
    simp

/-- A drawn region on its way. -/
def DW (X : Cx) (Q : Ex → Fr → St → Prop) (k : List Itm) (Z : List (Nat × AObj)) (os : Array Oper) (xs : List Oper) (ρ : Env) : Prop := ∃ ρ', DrawSteps X Z os ρ xs ρ' ∧ W X Q k ρ' Z
theorem DW_nil (h : W X Q k ρ Z) : DW X Q k Z os [] ρ := ⟨ρ, .nil, h⟩
theorem DW_cons {x : Oper} {xs : List Oper} {d : Nat} {v : V} (hd : x.dst = some d) (hs : StepV X ρ Z os x v) (h : DW X Q k Z os xs (upd ρ d v)) : DW X Q k Z os (x :: xs) ρ := by
  obtain ⟨ρ', h1, h2⟩ := h
  exact ⟨ρ', .cons hd hs h1, h2⟩
theorem DW_pure {x : Oper} {xs : List Oper} {d : Nat} {v : V} (hg : x.guard = none) (hd : x.dst = some d) (hv : PureOp X ρ Z x.op v) (h : DW X Q k Z os xs (upd ρ d v)) : DW X Q k Z os (x :: xs) ρ := DW_cons hd (.pure (by simp [wantE, hg]) hv) h
theorem DW_call {x : Oper} {xs : List Oper} {d : Nat} {fx : Operand} {args : Array Operand} {ts : Array TypeId} {fv v : V} {vs : List V} (hg : x.guard = none) (hd : x.dst = some d) (hx : x.op = .call { callee := .value fx, args := args, argTypes := ts })
    (hraw : ∀ d, X.C.raw X.f X.m d = false) (hfv : evo X.n ρ fx = some fv) (hvs : evl X.n ρ args.toList = some vs) (hr : ∀ σ, Hp X Z σ → Run X.C (.app false fv vs) σ (.val v) σ) (h : DW X Q k Z os xs (upd ρ d v)) : DW X Q k Z os (x :: xs) ρ :=
  DW_cons hd (.call (by simp [wantE, hg]) hx hraw hfv hvs hr) h
theorem DW_yes {x : Oper} {xs : List Oper} {j g : Nat} {want b : Bool} {d : Nat} {v : V} (hg : x.guard = some (j, want)) (hj : (os[j]?).bind (·.dst) = some g) (hgn : Nat.blt g X.n = true) (hb : ρ g = .bool b) (hbw : b = want) (hd : x.dst = some d)
    (hv : PureOp X ρ Z x.op v) (h : DW X Q k Z os xs (upd ρ d v)) : DW X Q k Z os (x :: xs) ρ := DW_cons hd (.pure (by simp [wantE, hg, dstAt, hj, hgn, hb, hbw]) hv) h
theorem DW_no {x : Oper} {xs : List Oper} {j g : Nat} {want b : Bool} {d : Nat} (hg : x.guard = some (j, want)) (hj : (os[j]?).bind (·.dst) = some g) (hgn : Nat.blt g X.n = true) (hb : ρ g = .bool b) (hbw : b = !want) (hd : x.dst = some d)
    (h : DW X Q k Z os xs (upd ρ d V.undef)) : DW X Q k Z os (x :: xs) ρ := DW_cons hd (.idle (by subst hbw; cases want <;> simp [wantE, hg, dstAt, hj, hgn, hb])) h
theorem DW_split {xs : List Oper} {t : Nat} {b : Bool} (h : ρ t = .bool b) (ht : b = true → DW X Q k Z os xs (upd ρ t (.bool true))) (hf : b = false → DW X Q k Z os xs (upd ρ t (.bool false))) : DW X Q k Z os xs ρ := by
  cases b with
  | true => have := upds_self (ρ := ρ) (l := [(t, .bool true)]) ⟨h, trivial⟩; rw [← this]; exact ht rfl
  | false => have := upds_self (ρ := ρ) (l := [(t, .bool false)]) ⟨h, trivial⟩; rw [← this]; exact hf rfl

theorem W_drawP {id : Nat} {xs : List Oper} (hx : os.toList = xs) (hdst : dstOK os = true) (hdata : dataOK os = true) (hw : wholeOK os = true) (h : DW X Q k Z os xs ρ) : W X Q (.code (.region id os true) :: k) ρ Z := by
  obtain ⟨ρ', h1, h2⟩ := h
  exact W_drawnP hx hdst hdata hw h1 h2
theorem W_drawL {id : Nat} {xs : List Oper} {w : Oper} (hx : os.toList.dropLast = xs) (hl : os.toList.getLast? = some w) (hdst : dstOK os = true) (hdata : dataOK os = true) (hw : wholeOK os = true) (hlast : lastOK os (os.size - 1) = true) (h : DW X Q (.ops os [w] :: k) Z os xs ρ) :
    W X Q (.code (.region id os true) :: k) ρ Z := by
  obtain ⟨ρ', h1, h2⟩ := h
  have hos : os.toList = xs ++ [w] := by
    rw [← hx]
    have hne : os.toList ≠ [] := by intro e; rw [e] at hl; cases hl
    rw [List.getLast?_eq_some_getLast hne] at hl
    rw [← Option.some.inj hl, List.dropLast_concat_getLast hne]
  have hsz : os.size - 1 = xs.length := by rw [← Array.length_toList, hos]; simp
  exact W_drawnL hos hdst hdata hw (hsz ▸ hlast) h1 h2
end
end Go.Ev

set_option linter.unusedSimpArgs false
set_option linter.unusedVariables false
namespace Go.Ev

/-- A slice that grows in a row of the store. -/
def tokSl (t : Nat) : List V → V
  | [] => .nilsl (some t)
  | x :: xs => .sl (.tok t) (x :: xs)
/-- The same, for whoever can only read it. -/
def sealSl : List V → V
  | [] => .nilsl none
  | x :: xs => .sl .sealed (x :: xs)

section
variable {X : Cx} {Q : Ex → Fr → St → Prop} {k : List Itm} {ρ : Env} {Z : List (Nat × AObj)}

theorem W_appendT {os : Array Oper} {x : Oper} {xo : List Oper} {d : Nat} {s y : Operand} {ts : Array TypeId} {t i e b n T T' : Nat} {D : TypeDesc} {xs ys : List V} {tk : Tk} (hg : x.guard = none) (hd : x.dst = some d) (hx : x.op = .call { callee := .builtin .append, args := #[s, y], argTypes := ts })
    (hts : ts.toList = [T, T']) (hown : ∀ d, X.C.own X.f X.m d = false) (hu : X.C.P.underlying T = some (.slice e)) (hu' : X.C.P.underlying T' = some D) (hD : ∀ k, D ≠ .int k) (ht : tsize X.C.P e = n + 1) (hb : tbytes X.C.P e = b) (hbs : Nat.ble b 1048576 = true) (hz : zeroOK X.C.P e = true)
    (hs : evo X.n ρ s = some (tokSl t xs)) (hy : evo X.n ρ y = some (.sl tk ys)) (hne : ys ≠ []) (hys : ∀ y ∈ ys, (vcells y).length = n + 1 ∧ (vcells y).all cellOK = true) (hxs : ∀ x ∈ xs, (vcells x).length = n + 1)
    (hfit : (xs.length + ys.length) * b ≤ 70368744177664 ∧ xs.length + ys.length ≤ 70368744177664) (hi : Z[i]? = some (t, .tok e xs.length)) {Z' : List (Nat × AObj)} (hZ : zset Z i (.tok e (xs ++ ys).length) = Z')
    (h : W X Q (.ops os xo :: k) (upd ρ d (tokSl t (xs ++ ys))) Z') : W X Q (.ops os (x :: xo) :: k) ρ Z :=
  W_one (ρ' := upd ρ d (tokSl t (xs ++ ys))) (Z' := Z') (fun fr σ hf hh => by
    have hall : (ys.all (fun y => (vcells y).length == tsize X.C.P e && (vcells y).all cellOK) && (decide (0 < tsize X.C.P e) && zeroOK X.C.P e)) = true := by
      rw [ht, hz]
      simp only [Bool.and_true, Bool.and_eq_true, List.all_eq_true, decide_eq_true_eq, beq_iff_eq]
      exact ⟨fun y hy => ⟨(hys y hy).1, by simpa using (hys y hy).2⟩, by omega⟩
    have hfits : fits X.C.P e (xs.length + ys.length) = true := by
      have := Nat.le_of_ble_eq_true hbs
      simp only [fits, hb, Bool.and_eq_true, decide_eq_true_eq]
      exact ⟨⟨by simpa using hfit.1, by simpa using this⟩, by simpa using hfit.2⟩
    have hset : σ.set t (.tok e (xs.length + ys.length)) = σ.set t (.tok e (xs ++ ys).length) := by simp
    refine ⟨put fr (some d) (tokSl t (xs ++ ys)), σ.set t (.tok e (xs ++ ys).length), frOK_put hf d _, hZ ▸ hh.set hi (fun r h => by cases h) (fun r h => by cases h), fun i' l o σ' hi' hr => .op hi' (by simp [wantedV, hg]) (v := tokSl t (xs ++ ys)) (σ' := σ.set t (.tok e (xs ++ ys).length)) ?_ (by rw [hd]; exact hr)⟩
    have hget := hh.get hi
    rw [hx]
    simp only [opV, evalL, evo_sound hf hs, evo_sound hf hy, Option.bind_some, builtinV, hts, hu, hu', viewS, hown]
    have hmain : appendV X.C.P false e σ (tokSl t xs) ys = some (tokSl t (xs ++ ys), σ.set t (.tok e (xs ++ ys).length)) := by
      unfold appendV
      rw [if_pos hall]
      cases xs with
      | nil =>
        have hf1 : fits X.C.P e ys.length = true := by simpa using hfits
        cases ys with
        | nil => exact absurd rfl hne
        | cons y0 ys =>
          simp only [List.length_nil] at hget
          simp [tokSl, hf1, hget]
          exact hf1
      | cons x0 xs =>
        have hx1 : ((x0 :: xs).all (fun x => (vcells x).length == tsize X.C.P e)) = true := by
          rw [ht, List.all_eq_true]; exact fun x hx => by simpa using hxs x hx
        simp only [tokSl, List.cons_append]
        rw [if_neg hne, hx1, hfits]
        simp only [Bool.not_true, Bool.false_eq_true, if_false, hget]
        rw [if_pos ⟨trivial, trivial, by simp⟩, hset]
        rfl
    cases D with
    | int k => exact absurd rfl (hD k)
    | _ => exact hmain) h

/-- A store goes on behind another one: what was there is there, no new loops. -/
structure Grows (σ σ' : St) : Prop where
  len : σ.length ≤ σ'.length
  old : ∀ (b : Nat), b < σ.length → σ'[b]? = σ[b]?
  noloop : ∀ (b : Nat) r, σ.length ≤ b → σ'[b]? ≠ some (.loop r)

theorem Hp.grows {σ σ' : St} (h : Hp X Z σ) (hg : Grows σ σ') : Hp X Z σ' := by
  have hlt : ∀ p ∈ Z, p.1 < σ.length := fun p hp => (List.getElem?_eq_some_iff.1 (h.at_ p hp)).1
  refine ⟨fun p hp => by rw [hg.old _ (hlt p hp)]; exact h.at_ p hp, h.nd, h.new, Nat.le_trans h.len hg.len, fun b hb hk => by rw [hg.old b (Nat.lt_of_lt_of_le hb h.len)]; exact h.old b hb hk, fun b r hb => ?_, fun p hp => by have hl := h.lp p hp; rw [hg.old _ (List.getElem?_eq_some_iff.1 hl).1]; exact hl,
    h.loc σ _ (fun c hc => hg.old c (Nat.lt_of_lt_of_le (h.ka c hc) h.len)) h.inv, h.za, h.ka, h.loc⟩
  rcases Nat.lt_or_ge b σ.length with h1 | h1
  · rw [hg.old b h1]; exact h.noloop b r hb
  · exact fun e => absurd e (hg.noloop b r h1)

/-- A new object of a call is known from then on. -/
theorem Hp.know {σ : St} (h : Hp X Z σ) {b : Nat} {o : AObj} (hb : σ[b]? = some o) (hn : X.σ0.length ≤ b) (hz : ∀ p ∈ Z, p.1 ≠ b) : Hp X ((b, o) :: Z) σ :=
  ⟨fun p hp => by
    rcases List.mem_cons.1 hp with rfl | hp
    · exact hb
    · exact h.at_ p hp, by
    simp only [List.map_cons, List.nodup_cons]
    refine ⟨fun hm => ?_, h.nd⟩
    obtain ⟨p, hp, e⟩ := List.mem_map.1 hm
    exact hz p hp e, fun p hp => by
    rcases List.mem_cons.1 hp with rfl | hp
    · exact .inl hn
    · exact h.new p hp, h.len, h.old, h.noloop, h.lp, h.inv, fun p hp => by
    rcases List.mem_cons.1 hp with rfl | hp
    · exact fun hc => absurd (h.ka _ hc) (Nat.not_lt.2 hn)
    · exact h.za p hp, h.ka, h.loc⟩

/-- A call that leaves one new object. -/
theorem W_callN {os : Array Oper} {x : Oper} {xs : List Oper} {d : Nat} {fx : Operand} {args : Array Operand} {ts : Array TypeId} {fv : V} {vs : List V} {v : Nat → V} {o : AObj} (hg : x.guard = none) (hd : x.dst = some d) (hx : x.op = .call { callee := .value fx, args := args, argTypes := ts })
    (hraw : X.C.raw X.f X.m d = false) (hfv : evo X.n ρ fx = some fv) (hvs : evl X.n ρ args.toList = some vs) (hr : ∀ σ, Hp X Z σ → ∃ b σ', σ.length ≤ b ∧ Grows σ σ' ∧ σ'[b]? = some o ∧ Run X.C (.app false fv vs) σ (.val (v b)) σ')
    (h : ∀ b, X.σ0.length ≤ b → W X Q (.ops os xs :: k) (upd ρ d (v b)) ((b, o) :: Z)) : W X Q (.ops os (x :: xs) :: k) ρ Z :=
  W_step fun fr σ hf hz => by
    obtain ⟨b, σ', hb, hgr, ho, hrun⟩ := hr σ hz
    have hlt : ∀ p ∈ Z, p.1 < σ.length := fun p hp => (List.getElem?_eq_some_iff.1 (hz.at_ p hp)).1
    exact ⟨_, _, put fr (some d) (v b), σ', frOK_put hf d _, (hz.grows hgr).know ho (Nat.le_trans hz.len hb) (fun p hp e => by have := hlt p hp; omega), h b (Nat.le_trans hz.len hb), fun i l o' σ'' hi hr' =>
      .call hi (by simp [wantedV, hg]) hx (evo_sound hf hfv) (evl_sound hf hvs) (by rw [hd, Option.getD_some, hraw]; exact hrun) (by rw [hd]; exact hr')⟩

/-- What a function's end is to be that hands back what it made. -/
def EndsN (X : Cx) (fn : Func) (R : V → St → Prop) (e : Ex) (fr : Fr) (σ : St) : Prop := (e = .normal ∨ e = .ret) ∧ Hp X [] σ ∧ ∃ u, resultsV X.C.P fn fr σ = some u ∧ freeze X.C.P X.σ0.length σ 3 u = none ∧ R u σ

theorem endsN_of {fn : Func} {fr : Fr} {σ : St} {e : Ex} {R : V → St → Prop} (he : e = .normal ∨ e = .ret) (hf : FrOK X.n ρ fr) (hz : Hp X Z σ) {rs : List ResultVar} (hrs : fn.results.toList = rs) {vs : List V} {u : V} (hr : resOf X ρ Z rs vs) (hu : packV vs = u)
    (hv : ∀ σ, Hp X Z σ → freeze X.C.P X.σ0.length σ 3 u = none ∧ R u σ) : EndsN X fn R e fr σ := ⟨he, hz.less (List.nil_sublist _), u, by unfold resultsV; rw [hrs, resOf_sound hf hz hr]; simp [hu], hv σ hz⟩

/-- A function that hands back what it made. -/
theorem fn_new {C : Cfg} {g : FuncId} {fn : Func} {c : Code} {first cap args : List V} {σ : St} {R : V → St → Prop} {n : Nat} (hp : C.isPrim g = false) (hf : C.P.funcs[g]? = some fn) (hb : fn.body = some c) (hn : (fn.name == "runtime.NumGoroutine") = false) (hnt : max fn.ntmps (first ++ args ++ cap).length = n)
    (h : W { C := C, f := g, m := false, rd := none, n := n, σ0 := σ, K := [] } (EndsN { C := C, f := g, m := false, rd := none, n := n, σ0 := σ, K := [] } fn R) [.code c] (fun t => (first ++ args ++ cap).getD t V.undef) []) :
    ∃ u σ', Run C (.app false (.func (.func g) first cap) args) σ (.val u) σ' ∧ Grows σ σ' ∧ R u σ' := by
  have hfr : FrOK n (fun t => (first ++ args ++ cap).getD t V.undef) ((first ++ args ++ cap) ++ List.replicate (fn.ntmps - (first ++ args ++ cap).length) V.undef) := by
    refine ⟨by simp only [List.length_append, List.length_replicate] at *; omega, fun t ht => ?_⟩
    generalize first ++ args ++ cap = l
    unfold get
    simp only [List.getD_eq_getElem?_getD]
    rcases Nat.lt_or_ge t l.length with h1 | h1
    · rw [List.getElem?_append_left h1]
    · rw [List.getElem?_append_right h1, List.getElem?_eq_none h1]
      simp only [List.getElem?_replicate]
      split <;> rfl
  have hz : Hp { C := C, f := g, m := false, rd := none, n := n, σ0 := σ, K := [] } [] σ := ⟨by simp, by simp, by simp, Nat.le_refl _, fun _ _ _ => rfl, fun b r hb e => by
    have := (List.getElem?_eq_some_iff.1 e).1
    exact absurd this (Nat.not_lt.2 hb), by simp, trivial, by simp, by simp, fun _ _ _ h => h⟩
  obtain ⟨e, fr', σ', hr, he, hz', u, hu, hv, hR⟩ := h _ σ hfr hz
  have hrun := runK_code hr
  have hfin : fin C.P false σ σ' u = (u, σ') := by
    unfold fin
    rw [show freeze C.P σ.length σ' 3 u = none from hv]
    split <;> rfl
  have := Run.fn (m := false) hp hf hb hn hrun he hu (by
    rw [hfin]
    intro b r h
    rcases Nat.lt_or_ge b σ.length with h1 | h1
    · exact ⟨r, by rw [← hz'.old b h1 (by simp)]; exact h⟩
    · have := hz'.noloop b r h1 h; simp at this)
  rw [hfin] at this
  exact ⟨u, σ', this, ⟨hz'.len, fun b hb => hz'.old b hb (by simp), fun b r hb e => by have := hz'.noloop b r hb e; simp at this⟩, hR⟩
end
end Go.Ev

set_option linter.unusedSimpArgs false
set_option linter.unusedVariables false
namespace Go.Ev

/-- A store goes on: only some old objects turn, none of them into a loop that was none. -/
structure Upto (Kb : List Nat) (σ σ' : St) : Prop where
  len : σ.length ≤ σ'.length
  old : ∀ (b : Nat), b < σ.length → b ∉ Kb → σ'[b]? = σ[b]?
  noloop : ∀ (b : Nat) r, σ.length ≤ b → σ'[b]? ≠ some (.loop r)
  kl : ∀ (b : Nat) r, b ∈ Kb → σ'[b]? = some (.loop r) → ∃ r0, σ[b]? = some (.loop r0)

theorem Upto.refl (Kb : List Nat) (σ : St) : Upto Kb σ σ := ⟨Nat.le_refl _, fun _ _ _ => rfl, fun b r h e => (by rw [List.getElem?_eq_none h] at e; cases e), fun b r _ h => ⟨r, h⟩⟩
theorem Upto.trans {Kb : List Nat} {a b c : St} (h : Upto Kb a b) (h' : Upto Kb b c) : Upto Kb a c := by
  refine ⟨Nat.le_trans h.len h'.len, fun x hx hk => by rw [h'.old x (Nat.lt_of_lt_of_le hx h.len) hk]; exact h.old x hx hk, fun x r hx e => ?_, fun x r hx e => ?_⟩
  · rcases Nat.lt_or_ge x b.length with h1 | h1
    · by_cases hk : x ∈ Kb
      · obtain ⟨r0, e0⟩ := h'.kl x r hk e
        exact h.noloop x r0 hx e0
      · rw [h'.old x h1 hk] at e; exact h.noloop x r hx e
    · exact h'.noloop x r h1 e
  · obtain ⟨r0, e0⟩ := h'.kl x r hx e
    exact h.kl x r0 hx e0

/-- No loops but where some were. -/
def KL (σ0 : St) (KA : List Nat) (σ : St) : Prop := ∀ b ∈ KA, ∀ r, σ[b]? = some (.loop r) → ∃ r0, σ0[b]? = some (.loop r0)

/-- What an iterator does, whatever is done with what it yields. -/
def IterSpec (C : Cfg) (σf : St → Prop) (fv : V) (xs : List V) (need : List Nat) : Prop :=
  ∀ (m : Bool) (l : Nat) (σ : St) (Kb : List Nat) (I J : Nat → St → Prop), σf σ → (∀ b ∈ need, b ∉ Kb) → (∀ b ∈ Kb, b < σ.length) →
    (∀ i (σ1 σ2 : St), (∀ b ∈ Kb, σ2[b]? = σ1[b]?) → I i σ1 → I i σ2) → (∀ i (σ1 σ2 : St), (∀ b ∈ Kb, σ2[b]? = σ1[b]?) → J i σ1 → J i σ2) → I 0 σ →
    (∀ (i : Nat) x σ1, xs[i]? = some x → I i σ1 → Upto Kb σ σ1 → ∃ t σ2, Run C (.app false (.yield l) [x]) σ1 (.val (.bool t)) σ2 ∧ Upto Kb σ1 σ2 ∧ (t = true → I (i + 1) σ2) ∧ (t = false → J i σ2)) →
    ∃ v σ', Run C (.app m fv [.yield l]) σ (.val v) σ' ∧ Upto Kb σ σ' ∧ (I xs.length σ' ∨ ∃ i, i < xs.length ∧ J i σ')

section
variable {X : Cx} {Q : Ex → Fr → St → Prop} {k : List Itm} {ρ : Env} {Z : List (Nat × AObj)}

/-- The same place, another invariant. -/
abbrev Cx.withA (X : Cx) (A : St → Prop) : Cx := { X with A := fun σ => A σ ∧ KL X.σ0 X.KA σ }

theorem Hp.upto {σ σ' : St} {A : St → Prop} (h : Hp X Z σ) (hK : ∀ b ∈ X.KA, b ∈ X.K) (hu : Upto X.KA σ σ') (hL : ∀ p ∈ X.L, p.1 ∉ X.KA) (hA : A σ') (hkl : KL X.σ0 X.KA σ) (hloc : ∀ σ1 σ2 : St, (∀ b ∈ X.KA, σ2[b]? = σ1[b]?) → A σ1 → A σ2) : Hp (X.withA A) Z σ' := by
  have hlt : ∀ p ∈ Z, p.1 < σ.length := fun p hp => (List.getElem?_eq_some_iff.1 (h.at_ p hp)).1
  refine ⟨fun p hp => by rw [hu.old _ (hlt p hp) (h.za p hp)]; exact h.at_ p hp, h.nd, h.new, Nat.le_trans h.len hu.len, fun b hb hk => ?_, fun b r hb e => ?_, fun p hp => ?_, ⟨hA, fun b hb r e => ?_⟩, h.za, h.ka, fun σ1 σ2 he ha => ⟨hloc σ1 σ2 he ha.1, fun b hb r e => ha.2 b hb r (by rw [← he b hb]; exact e)⟩⟩
  · rw [hu.old b (Nat.lt_of_lt_of_le hb h.len) (fun hc => hk (hK b hc))]; exact h.old b hb hk
  · rcases Nat.lt_or_ge b σ.length with h1 | h1
    · have hc : b ∉ X.KA := fun hc => absurd (h.ka b hc) (Nat.not_lt.2 hb)
      rw [hu.old b h1 hc] at e
      exact h.noloop b r hb e
    · exact absurd e (hu.noloop b r h1)
  · have hl := h.lp p hp
    rw [hu.old _ (List.getElem?_eq_some_iff.1 hl).1 (hL p hp)]
    exact hl
  · obtain ⟨r0, e0⟩ := hu.kl b r hb e
    exact hkl b hb r0 e0

/-- Something is yielded. -/
theorem W_yield {os : Array Oper} {x : Oper} {xs : List Oper} {d : Nat} {fx : Operand} {args : Array Operand} {ts : Array TypeId} {fv : V} {vs : List V} {A1 A2 : St → Prop} (hg : x.guard = none) (hd : x.dst = some d) (hx : x.op = .call { callee := .value fx, args := args, argTypes := ts })
    (hraw : X.C.raw X.f X.m d = false) (hfv : evo X.n ρ fx = some fv) (hvs : evl X.n ρ args.toList = some vs) (hK : ∀ b ∈ X.KA, b ∈ X.K) (hL : ∀ p ∈ X.L, p.1 ∉ X.KA) (hkl : ∀ σ, X.A σ → KL X.σ0 X.KA σ)
    (hl1 : ∀ σ1 σ2 : St, (∀ b ∈ X.KA, σ2[b]? = σ1[b]?) → A1 σ1 → A1 σ2) (hl2 : ∀ σ1 σ2 : St, (∀ b ∈ X.KA, σ2[b]? = σ1[b]?) → A2 σ1 → A2 σ2)
    (hr : ∀ σ, Hp X Z σ → ∃ t σ', Run X.C (.app false fv vs) σ (.val (.bool t)) σ' ∧ Upto X.KA σ σ' ∧ (t = true → A1 σ') ∧ (t = false → A2 σ'))
    (h1 : W (X.withA A1) Q (.ops os xs :: k) (upd ρ d (.bool true)) Z) (h2 : W (X.withA A2) Q (.ops os xs :: k) (upd ρ d (.bool false)) Z) : W X Q (.ops os (x :: xs) :: k) ρ Z := fun fr σ hf hz => by
  obtain ⟨t, σ', hrun, hu, ha1, ha2⟩ := hr σ hz
  have key : ∃ e fr' σ2, RunK X.C X.f X.m X.rd (.ops os xs :: k) (put fr (some d) (.bool t)) σ' e fr' σ2 ∧ Q e fr' σ2 := by
    cases t with
    | true => exact h1 _ σ' (frOK_put hf d _) (hz.upto hK hu hL (ha1 rfl) (hkl _ hz.inv) hl1)
    | false => exact h2 _ σ' (frOK_put hf d _) (hz.upto hK hu hL (ha2 rfl) (hkl _ hz.inv) hl2)
  obtain ⟨e, fr', σ2, hk, hq⟩ := key
  refine ⟨e, fr', σ2, ?_, hq⟩
  cases hk with
  | ops h3 h4 =>
    refine .ops (fun l hl => ?_) h4
    cases l with
    | nil => simp [Laid] at hl
    | cons i l =>
      simp only [Laid, List.map_cons, List.cons.injEq] at hl
      exact .call hl.1 (by simp [wantedV, hg]) hx (evo_sound hf hfv) (evl_sound hf hvs) (by rw [hd, Option.getD_some, hraw]; exact hrun) (by rw [hd]; exact h3 l hl.2)

/-- How an iterator ends. -/
def EndsI (C : Cfg) (σ0 : St) (Kb : List Nat) (fn : Func) (R : St → Prop) (e : Ex) (fr : Fr) (σ : St) : Prop := (e = .normal ∨ e = .ret) ∧ Upto Kb σ0 σ ∧ resultsV C.P fn fr σ = some (.tup []) ∧ R σ

/-- The store of an iterator so far. -/
theorem Hp.go {σ : St} (h : Hp X Z σ) (hL : X.L = []) (hkl : KL X.σ0 X.K σ) : Upto X.K X.σ0 σ :=
  ⟨h.len, fun b hb hk => h.old b hb hk, fun b r hb e => by have := h.noloop b r hb e; rw [hL] at this; simp at this, fun b r hb e => hkl b hb r e⟩

theorem endsI_of {fn : Func} {fr : Fr} {σ : St} {e : Ex} {R : St → Prop} (he : e = .normal ∨ e = .ret) (hz : Hp X Z σ) (hL : X.L = []) (hkl : X.A σ → KL X.σ0 X.K σ) (hrs : fn.results.toList = []) (hR : X.A σ → R σ) : EndsI X.C X.σ0 X.K fn R e fr σ :=
  ⟨he, hz.go hL (hkl hz.inv), by unfold resultsV; rw [hrs]; rfl, hR hz.inv⟩

theorem frOK_start {fn : Func} {l : List V} {n : Nat} (hnt : max fn.ntmps l.length = n) : FrOK n (fun t => l.getD t V.undef) (l ++ List.replicate (fn.ntmps - l.length) V.undef) := by
  refine ⟨by simp only [List.length_append, List.length_replicate] at *; omega, fun t ht => ?_⟩
  unfold get
  simp only [List.getD_eq_getElem?_getD]
  rcases Nat.lt_or_ge t l.length with h1 | h1
  · rw [List.getElem?_append_left h1]
  · rw [List.getElem?_append_right h1, List.getElem?_eq_none h1]
    simp only [List.getElem?_replicate]
    split <;> rfl

theorem Upto.cut {Kb : List Nat} {σ σ' : St} (hu : Upto Kb σ σ') (hk : ∀ b ∈ Kb, b < σ.length) : Upto Kb σ (σ'.take σ.length) := by
  have hl : (σ'.take σ.length).length = σ.length := by simp [hu.len]
  refine ⟨by omega, fun b hb hk => by rw [List.getElem?_take, if_pos hb]; exact hu.old b hb hk, fun b r hb e => ?_, fun b r hb e => ?_⟩
  · rw [List.getElem?_eq_none (by omega)] at e; cases e
  · rw [List.getElem?_take, if_pos (hk b hb)] at e; exact hu.kl b r hb e

/-- An iterator's walk. -/
theorem fn_iter {C : Cfg} {m : Bool} {g : FuncId} {fn : Func} {c : Code} {first cap args : List V} {σ : St} {R A : St → Prop} {Kb : List Nat} {n : Nat} (hp : C.isPrim g = false) (hf : C.P.funcs[g]? = some fn) (hb : fn.body = some c) (hn : (fn.name == "runtime.NumGoroutine") = false) (hnt : max fn.ntmps (first ++ args ++ cap).length = n)
    (hk : ∀ b ∈ Kb, b < σ.length) (hA : A σ) (hloc : ∀ σ1 σ2 : St, (∀ b ∈ Kb, σ2[b]? = σ1[b]?) → A σ1 → A σ2) (hlocR : ∀ σ1 σ2 : St, (∀ b ∈ Kb, σ2[b]? = σ1[b]?) → R σ1 → R σ2)
    (h : W (Cx.withA { C := C, f := g, m := m, rd := none, n := n, σ0 := σ, K := Kb, KA := Kb } A) (EndsI C σ Kb fn R) [.code c] (fun t => (first ++ args ++ cap).getD t V.undef) []) :
    ∃ v σ', Run C (.app m (.func (.func g) first cap) args) σ (.val v) σ' ∧ Upto Kb σ σ' ∧ R σ' := by
  obtain ⟨e, fr', σ', hr, he, hu, hres, hR⟩ := h _ σ (frOK_start hnt) ⟨by simp, by simp, by simp, Nat.le_refl _, fun _ _ _ => rfl, fun b r hb e => by
    have := (List.getElem?_eq_some_iff.1 e).1
    exact absurd this (Nat.not_lt.2 hb), by simp, ⟨hA, fun b hb r e => ⟨r, e⟩⟩, by simp, hk, fun σ1 σ2 he ha => ⟨hloc σ1 σ2 he ha.1, fun b hb r e => ha.2 b hb r (by rw [← he b hb]; exact e)⟩⟩
  have hrun := runK_code hr
  obtain ⟨σ2, hσ2, hu2, hR2⟩ : ∃ σ2, (fin C.P m σ σ' (.tup [])).2 = σ2 ∧ Upto Kb σ σ2 ∧ R σ2 := by
    unfold fin
    rw [show freeze C.P σ.length σ' 3 (.tup []) = some (.tup []) by simp [freeze, freeze.frL]]
    split
    · exact ⟨_, rfl, hu.cut hk, hlocR σ' _ (fun b hb => by simp [hk b hb]) hR⟩
    · exact ⟨_, rfl, hu, hR⟩
  have hnl : NoNewLoops σ (fin C.P m σ σ' (.tup [])).2 := by
    rw [hσ2]
    intro b r h
    rcases Nat.lt_or_ge b σ.length with h1 | h1
    · by_cases hbk : b ∈ Kb
      · exact hu2.kl b r hbk h
      · exact ⟨r, by rw [← hu2.old b h1 hbk]; exact h⟩
    · exact absurd h (hu2.noloop b r h1)
  have := Run.fn (m := m) hp hf hb hn hrun he hres hnl
  rw [hσ2] at this
  exact ⟨_, σ2, this, hu2, hR2⟩
end
end Go.Ev

set_option linter.unusedSimpArgs false
set_option linter.unusedVariables false
namespace Go.Ev

def setEnv (ρ : Env) : List Tmp → List V → Env
  | t :: ts, v :: vs => setEnv (upd ρ t v) ts vs
  | _, _ => ρ
theorem frOK_params {n : Nat} : ∀ {ps : List Tmp} {vs : List V} {ρ : Env} {fr : Fr}, FrOK n ρ fr → FrOK n (setEnv ρ ps vs) (setParams fr ps vs)
  | [], _, _, _, h => by simpa [setEnv, setParams] using h
  | _ :: _, [], _, _, h => by simpa [setEnv, setParams] using h
  | t :: ts, v :: vs, ρ, fr, h => frOK_params (ps := ts) (vs := vs) (frOK_put h t v)

/-- Objects are known in another order. -/
theorem Hp.sub {X : Cx} {Z Z' : List (Nat × AObj)} {σ : St} (h : Hp X Z σ) (hs : ∀ p ∈ Z', p ∈ Z) (hn : (Z'.map (·.1)).Nodup) : Hp X Z' σ :=
  ⟨fun p hp => h.at_ p (hs p hp), hn, fun p hp => h.new p (hs p hp), h.len, h.old, h.noloop, h.lp, h.inv, fun p hp => h.za p (hs p hp), h.ka, h.loc⟩

/-- Where a loop's body runs: its record is l; it may turn what is known, kc of it. -/
abbrev Cx.inLoop (X : Cx) (Z : List (Nat × AObj)) (l : Nat) (r : ALoop) (σ1 : St) : Cx := { C := X.C, f := X.f, m := X.m, rd := some l, n := X.n, σ0 := σ1, K := l :: Z.map (·.1), L := (l, r) :: X.L }

section
variable {X : Cx} {Q : Ex → Fr → St → Prop} {k : List Itm} {ρ : Env} {Z : List (Nat × AObj)}

/-- How a round of a loop ends. -/
def EndsB {S : Type} (X : Cx) (Zf : S → List (Nat × AObj)) (R : Ex → S → Prop) (e : Ex) (fr : Fr) (σ : St) : Prop := ∃ s, Hp X (Zf s) σ ∧ R e s

/-- The loop's record, by state and by what is pending. -/
abbrev loopRec (X : Cx) (fr : Fr) (ps : Array Tmp) (assign body : Code) (st : LoopState) (p : Option Code) : ALoop := { state := st, pending := p, fn := X.f, raw := X.m, tmps := fr, params := ps, assign := assign, body := body }

theorem jump_ne {e : Ex} (h : e ≠ .normal) : ∃ c, jumpOf e = some c := by cases e <;> simp_all [jumpOf]
theorem exOf_jump (e : Ex) : exOf (jumpOf e) = some e := by cases e <;> rfl

theorem W_range {S : Type} {x : Operand} {ps : Array Tmp} {assign body : Code} {fv : V} {xs : List V} {σf : St → Prop} {need kc : List Nat} (Zf : S → List (Nat × AObj)) (s0 : S) (I : Nat → S → Prop) (J : Nat → Ex → S → Prop)
    (hspec : IterSpec X.C σf fv xs need) (hfv : evo X.n ρ x = some fv) (hKA : X.KA = []) (hrd : ∀ l, X.rd = some l → ∃ r0, (l, r0) ∈ X.L) (hps : ps.size = 1)
    (hσf : ∀ σ o, Hp X Z σ → σf (σ ++ [o])) (hneed : ∀ σ, Hp X Z σ → ∀ b ∈ need, b ∉ kc ∧ b < σ.length) (h0 : Zf s0 = Z) (hkeys : ∀ s, (Zf s).map (·.1) = Z.map (·.1)) (hkc : ∀ b ∈ kc, b ∈ Z.map (·.1)) (hsame : ∀ σ s, Hp X Z σ → ∀ p ∈ Zf s, p.1 ∉ kc → p ∈ Z)
    (hnl : ∀ s, ∀ p ∈ Zf s, ∀ r, p.2 ≠ .loop r) (hI0 : I 0 s0)
    (hbody : ∀ (i : Nat) v s l σ1 fr, xs[i]? = some v → I i s → W (X.inLoop Z l (loopRec X fr ps assign body .ready none) σ1)
      (fun e fr' σ2 => e = .normal ∧ ∃ ρ2 Z2, FrOK X.n ρ2 fr' ∧ Hp (X.inLoop Z l (loopRec X fr ps assign body .ready none) σ1) Z2 σ2 ∧ (∀ p ∈ Z2, ∀ r, p.2 ≠ .loop r) ∧
        W (X.inLoop Z l (loopRec X fr ps assign body .busy none) σ1) (EndsB (X.inLoop Z l (loopRec X fr ps assign body .busy none) σ1) Zf fun e s' => (e = .normal → I (i + 1) s') ∧ (e ≠ .normal → J i e s')) [.code body] ρ2 Z2)
      [.code assign] (setEnv ρ ps.toList [v]) (Zf s))
    (hn : ∀ s, I xs.length s → W X Q k ρ (Zf s)) (he : ∀ i e s c, i < xs.length → J i e s → jumpOf e = some c → W X Q (.code c :: k) ρ (Zf s)) : W X Q (.code (.rangeFunc x ps assign body) :: k) ρ Z := fun fr σ hf hz => by
  obtain ⟨l, hl⟩ : ∃ l, l = σ.length := ⟨_, rfl⟩
  obtain ⟨σs, hσs⟩ : ∃ σs, σs = σ ++ [.loop (loopRec X fr ps assign body .ready none)] := ⟨_, rfl⟩
  have hlen : σs.length = σ.length + 1 := by simp [hσs]
  have hZlt : ∀ b ∈ Z.map (·.1), b < σ.length := fun b hb => by
    obtain ⟨p, hp, rfl⟩ := List.mem_map.1 hb
    exact (List.getElem?_eq_some_iff.1 (hz.at_ p hp)).1
  have hσsl : σs[l]? = some (.loop (loopRec X fr ps assign body .ready none)) := by simp [hσs, hl]
  have hσsb : ∀ b, b < σ.length → σs[b]? = σ[b]? := fun b hb => by rw [hσs]; exact List.getElem?_append_left hb
  obtain ⟨Kb, hKb⟩ : ∃ Kb, Kb = l :: kc := ⟨_, rfl⟩
  have hkcl : ∀ b ∈ kc, b < σ.length := fun b hb => hZlt b (hkc b hb)
  have hlkc : l ∉ kc := fun h => by have := hkcl l h; omega
  -- what is kept up
  let I' : Nat → St → Prop := fun i σ1 => ∃ s, I i s ∧ (∀ p ∈ Zf s, p.1 ∈ kc → σ1[p.1]? = some p.2) ∧ σ1[l]? = some (.loop (loopRec X fr ps assign body .ready none))
  let J' : Nat → St → Prop := fun i σ1 => ∃ s e, J i e s ∧ e ≠ .normal ∧ (∀ p ∈ Zf s, p.1 ∈ kc → σ1[p.1]? = some p.2) ∧ σ1[l]? = some (.loop (loopRec X fr ps assign body .done (jumpOf e)))
  have hIl : ∀ i (σ1 σ2 : St), (∀ b ∈ Kb, σ2[b]? = σ1[b]?) → I' i σ1 → I' i σ2 := fun i σ1 σ2 he ⟨s, h1, h2, h3⟩ =>
    ⟨s, h1, fun p hp hk => by rw [he p.1 (by simp [hKb, hk])]; exact h2 p hp hk, by rw [he l (by simp [hKb])]; exact h3⟩
  have hJl : ∀ i (σ1 σ2 : St), (∀ b ∈ Kb, σ2[b]? = σ1[b]?) → J' i σ1 → J' i σ2 := fun i σ1 σ2 he ⟨s, e, h1, h0, h2, h3⟩ =>
    ⟨s, e, h1, h0, fun p hp hk => by rw [he p.1 (by simp [hKb, hk])]; exact h2 p hp hk, by rw [he l (by simp [hKb])]; exact h3⟩
  -- the objects that are known, at a store between
  have hat : ∀ (σ1 : St) s, Upto Kb σs σ1 → (∀ p ∈ Zf s, p.1 ∈ kc → σ1[p.1]? = some p.2) → ∀ p ∈ Zf s, σ1[p.1]? = some p.2 := fun σ1 s hu hk p hp => by
    by_cases hpk : p.1 ∈ kc
    · exact hk p hp hpk
    · have hm : p.1 ∈ Z.map (·.1) := by rw [← hkeys s]; exact List.mem_map_of_mem (f := (·.1)) hp
      have hlt := hZlt _ hm
      rw [hu.old p.1 (by omega) (by rw [hKb]; simp only [List.mem_cons, not_or]; exact ⟨by omega, hpk⟩), hσsb _ hlt]
      exact hz.at_ p (hsame σ s hz p hp hpk)
  have hLl : ∀ p ∈ X.L, ∀ (σ1 : St), Upto Kb σs σ1 → σ1[p.1]? = some (.loop p.2) ∧ p.1 < σ.length ∧ p.1 ∉ Z.map (·.1) := fun p hp σ1 hu => by
    have h1 := hz.lp p hp
    have hlt := (List.getElem?_eq_some_iff.1 h1).1
    have hnz : p.1 ∉ Z.map (·.1) := fun hm => by
      obtain ⟨q, hq, e⟩ := List.mem_map.1 hm
      have h2 := hz.at_ q hq
      rw [e, h1] at h2
      exact hnl s0 q (h0 ▸ hq) p.2 (Option.some.inj h2).symm
    refine ⟨?_, hlt, hnz⟩
    rw [hu.old p.1 (by omega) (by rw [hKb]; simp only [List.mem_cons, not_or]; exact ⟨by omega, fun h => hnz (hkc _ h)⟩), hσsb _ hlt]
    exact h1
  have hstep : ∀ (i : Nat) v σ1, xs[i]? = some v → I' i σ1 → Upto Kb σs σ1 → ∃ t σ2, Run X.C (.app false (.yield l) [v]) σ1 (.val (.bool t)) σ2 ∧ Upto Kb σ1 σ2 ∧ (t = true → I' (i + 1) σ2) ∧ (t = false → J' i σ2) := by
    intro i v σ1 hv ⟨s, hIs, hks, hls⟩ hu
    have hnd : ∀ s, ((Zf s).map (·.1)).Nodup := fun s => by rw [hkeys]; exact hz.nd
    have hlt1 : l < σ1.length := (List.getElem?_eq_some_iff.1 hls).1
    have hZ1 : ∀ p ∈ Zf s, p.1 < σ.length := fun p hp => hZlt _ (by rw [← hkeys s]; exact List.mem_map_of_mem (f := (·.1)) hp)
    have hle1 : σ.length ≤ σ1.length := by have := hu.len; omega
    have hp1 : Hp (X.inLoop Z l (loopRec X fr ps assign body .ready none) σ1) (Zf s) σ1 := by
      refine ⟨hat σ1 s hu hks, hnd s, fun p hp => .inr (by show p.1 ∈ l :: Z.map (·.1); rw [← hkeys s]; exact List.mem_cons_of_mem _ (List.mem_map_of_mem (f := (·.1)) hp)), Nat.le_refl _, fun _ _ _ => rfl, fun b r hb e => absurd (List.getElem?_eq_some_iff.1 e).1 (Nat.not_lt.2 hb), fun p hp => ?_, trivial, by simp, by simp, fun _ _ _ h => h⟩
      rcases List.mem_cons.1 hp with rfl | hp
      · exact hls
      · exact (hLl p hp σ1 hu).1
    obtain ⟨e, fr1, σ2, hr1, he1, ρ2, Z2, hf2, hz2, hZ2n, hw2⟩ := hbody i v s l σ1 fr hv hIs _ σ1 (frOK_params hf) hp1
    subst he1
    have hrun1 := runK_code hr1
    have hl2 : σ2[l]? = some (.loop (loopRec X fr ps assign body .ready none)) := hz2.lp (l, _) (by simp)
    have hZ2l : ∀ p ∈ Z2, p.1 ≠ l := fun p hp e => by
      have h1 := hz2.at_ p hp
      rw [e, hl2] at h1
      exact hZ2n p hp _ (Option.some.inj h1).symm
    have hlt2 : l < σ2.length := (List.getElem?_eq_some_iff.1 hl2).1
    have hz3 : Hp (X.inLoop Z l (loopRec X fr ps assign body .busy none) σ1) Z2 (σ2.set l (.loop (loopRec X fr ps assign body .busy none))) := by
      refine ⟨fun p hp => by rw [List.getElem?_set_ne (Ne.symm (hZ2l p hp))]; exact hz2.at_ p hp, hz2.nd, hz2.new, by simp; exact hz2.len, fun b hb hk => ?_, fun b r hb e => ?_, fun p hp => ?_, trivial, by simp, by simp, fun _ _ _ h => h⟩
      · rw [List.getElem?_set_ne (by rintro rfl; exact hk (List.mem_cons_self ..))]; exact hz2.old b hb hk
      · have hne : l ≠ b := by rintro rfl; exact absurd hlt1 (Nat.not_lt.2 hb)
        rw [List.getElem?_set_ne hne] at e
        have := hz2.noloop b r hb e
        rcases List.mem_cons.1 this with h | h
        · exact absurd (Prod.mk.inj h).1.symm hne
        · exact List.mem_cons_of_mem _ h
      · rcases List.mem_cons.1 hp with rfl | hp
        · exact List.getElem?_set_self hlt2
        · have := hLl p hp σ1 hu
          rw [List.getElem?_set_ne (by omega)]
          exact hz2.lp p (by simp [hp])
    obtain ⟨e, fr2, σ3, hr2, s', hz4, hIJ⟩ := hw2 _ _ hf2 hz3
    have hrun2 := runK_code hr2
    have hl3 : σ3[l]? = some (.loop (loopRec X fr ps assign body .busy none)) := hz4.lp (l, _) (by simp)
    have hlt3 : l < σ3.length := (List.getElem?_eq_some_iff.1 hl3).1
    have hy := Run.yield (C := X.C) (m := false) (args := [v]) hls (by simp [hps]) hrun1 hl2 rfl hrun2 hl3
    have hZl' : ∀ p ∈ Zf s', p.1 ≠ l := fun p hp e => by
      have := hZlt p.1 (by rw [← hkeys s']; exact List.mem_map_of_mem (f := (·.1)) hp)
      omega
    have hu2 : ∀ o, (∃ r, o = AObj.loop r) → Upto Kb σ1 (σ3.set l o) := fun o ⟨ro, hro⟩ => by
      refine ⟨by simp; exact hz4.len, fun b hb hk => ?_, fun b r hb e => ?_, fun b r hb e => ?_⟩
      · rw [hKb] at hk
        simp only [List.mem_cons, not_or] at hk
        rw [List.getElem?_set_ne (Ne.symm hk.1)]
        by_cases hm : b ∈ (Zf s').map (·.1)
        · obtain ⟨p, hp, rfl⟩ := List.mem_map.1 hm
          have hlt := hZlt p.1 (by rw [← hkeys s']; exact hm)
          rw [hz4.at_ p hp, hu.old p.1 (by omega) (by rw [hKb]; simp only [List.mem_cons, not_or]; exact hk), hσsb _ hlt]
          exact (hz.at_ p (hsame σ s' hz p hp hk.2)).symm
        · exact hz4.old b hb (by show b ∉ l :: Z.map (·.1); rw [← hkeys s']; simp only [List.mem_cons, not_or]; exact ⟨hk.1, hm⟩)
      · have hne : l ≠ b := by rintro rfl; exact absurd hlt1 (Nat.not_lt.2 hb)
        rw [List.getElem?_set_ne hne] at e
        rcases List.mem_cons.1 (hz4.noloop b r hb e) with h | h
        · exact hne (Prod.mk.inj h).1.symm
        · have := hLl (b, r) h σ1 hu
          simp only at this
          omega
      · rw [hKb] at hb
        rcases List.mem_cons.1 hb with rfl | hb
        · exact ⟨_, hls⟩
        · have hne : l ≠ b := by rintro rfl; exact hlkc hb
          rw [List.getElem?_set_ne hne] at e
          obtain ⟨p, hp, rfl⟩ := List.mem_map.1 (show b ∈ (Zf s').map (·.1) by rw [hkeys]; exact hkc b hb)
          rw [hz4.at_ p hp] at e
          exact absurd (Option.some.inj e) (hnl s' p hp r)
    refine ⟨_, _, hy, hu2 _ ⟨_, rfl⟩, fun ht => ?_, fun ht => ?_⟩
    · have hen : e = .normal := by cases e <;> simp_all [jumpOf]
      subst hen
      refine ⟨s', hIJ.1 rfl, fun p hp _ => ?_, ?_⟩
      · rw [List.getElem?_set_ne (Ne.symm (hZl' p hp))]; exact hz4.at_ p hp
      · rw [List.getElem?_set_self hlt3]; rfl
    · have hen : e ≠ .normal := by rintro rfl; cases ht
      refine ⟨s', e, hIJ.2 hen, hen, fun p hp _ => ?_, ?_⟩
      · rw [List.getElem?_set_ne (Ne.symm (hZl' p hp))]; exact hz4.at_ p hp
      · rw [List.getElem?_set_self hlt3, ht]; rfl
  obtain ⟨v, σ', hrun, hu, hend⟩ := hspec X.m l σs Kb I' J' (by rw [hσs]; exact hσf σ _ hz) (fun b hb => by
      have := hneed σ hz b hb
      rw [hKb]; simp only [List.mem_cons, not_or]; exact ⟨by omega, this.1⟩) (fun b hb => by
      rw [hKb] at hb
      rcases List.mem_cons.1 hb with rfl | hb
      · omega
      · have := hkcl b hb; omega) hIl hJl ⟨s0, hI0, fun p hp _ => by
        rw [h0] at hp
        rw [hσsb _ (hZlt _ (List.mem_map_of_mem (f := (·.1)) hp))]; exact hz.at_ p hp, hσsl⟩ hstep
  obtain ⟨s, e, r, hlr, hst, hex, hob, hIe, hJe⟩ : ∃ s e r, σ'[l]? = some (.loop r) ∧ r.state ≠ .busy ∧ exOf r.pending = some e ∧ (∀ p ∈ Zf s, p.1 ∈ kc → σ'[p.1]? = some p.2) ∧ (e = .normal → I xs.length s) ∧ (e ≠ .normal → ∃ i, i < xs.length ∧ J i e s) := by
    rcases hend with ⟨s, h1, h2, h3⟩ | ⟨i, hi, s, e, h1, h0, h2, h3⟩
    · exact ⟨s, .normal, _, h3, by simp, rfl, h2, fun _ => h1, fun h => absurd rfl h⟩
    · exact ⟨s, e, _, h3, by simp, exOf_jump e, h2, fun h => absurd h h0, fun _ => ⟨i, hi, h1⟩⟩
  have hall := hat σ' s hu hob
  obtain ⟨σd, hσd⟩ : ∃ σd, dropLoop σ (σ'.set σ.length .dead) = σd := ⟨_, rfl⟩
  have hdb : ∀ b, b < σ.length → σd[b]? = σ'[b]? := fun b hb => by
    rw [← hσd]
    unfold dropLoop
    split
    · rw [List.getElem?_take, if_pos hb, List.getElem?_set_ne (by omega)]
    · rw [List.getElem?_set_ne (by omega)]
  have hdl : σ.length ≤ σd.length := by
    have := hu.len
    rw [← hσd]
    unfold dropLoop
    split
    · simp; omega
    · simp; omega
  have hdn : ∀ b r, σ.length ≤ b → σd[b]? ≠ some (.loop r) := fun b r hb e => by
    rw [← hσd] at e
    unfold dropLoop at e
    split at e
    · rw [List.getElem?_take, if_neg (by omega)] at e; cases e
    · rcases Nat.eq_or_lt_of_le hb with h | h
      · subst h
        rw [← hl, List.getElem?_set_self (List.getElem?_eq_some_iff.1 hlr).1] at e
        cases e
      · rw [List.getElem?_set_ne (by omega)] at e
        exact hu.noloop b r (by omega) e
  have hdk : ∀ b r, b < σ.length → σd[b]? = some (.loop r) → σ[b]? = some (.loop r) := fun b r hb e => by
    rw [hdb b hb] at e
    by_cases hm : b ∈ Z.map (·.1)
    · obtain ⟨p, hp, rfl⟩ := List.mem_map.1 (show b ∈ (Zf s).map (·.1) by rw [hkeys]; exact hm)
      rw [hall p hp] at e
      exact absurd (Option.some.inj e) (hnl s p hp r)
    · rwa [hu.old b (by omega) (by rw [hKb]; simp only [List.mem_cons, not_or]; exact ⟨by omega, fun h => hm (hkc b h)⟩), hσsb b hb] at e
  have hdead : NoNewLoops σ σd := fun b r h => by
    rcases Nat.lt_or_ge b σ.length with h1 | h1
    · exact ⟨r, hdk b r h1 h⟩
    · exact absurd h (hdn b r h1)
  have hpe : Hp X (Zf s) σd := by
    have hlt : ∀ p ∈ Zf s, p.1 < σ.length := fun p hp => hZlt _ (by rw [← hkeys s]; exact List.mem_map_of_mem (f := (·.1)) hp)
    refine ⟨fun p hp => by rw [hdb _ (hlt p hp)]; exact hall p hp, by rw [hkeys]; exact hz.nd, fun p hp => ?_, Nat.le_trans hz.len hdl, fun b hb hk => ?_, fun b r hb e => ?_, fun p hp => ?_, hz.loc σ _ (by rw [hKA]; simp) hz.inv, by rw [hKA]; simp, hz.ka, hz.loc⟩
    · obtain ⟨q, hq, e⟩ := List.mem_map.1 (show p.1 ∈ Z.map (·.1) by rw [← hkeys s]; exact List.mem_map_of_mem (f := (·.1)) hp)
      rw [← e]; exact hz.new q hq
    · have hlt : b < σ.length := Nat.lt_of_lt_of_le hb hz.len
      have hm : b ∉ Z.map (·.1) := fun hm => by
        obtain ⟨p, hp, rfl⟩ := List.mem_map.1 hm
        rcases hz.new p hp with h | h
        · omega
        · exact hk h
      rw [hdb b hlt, hu.old b (by omega) (by rw [hKb]; simp only [List.mem_cons, not_or]; exact ⟨by omega, fun h => hm (hkc b h)⟩), hσsb b hlt]
      exact hz.old b hb hk
    · rcases Nat.lt_or_ge b σ.length with h1 | h1
      · exact hz.noloop b r hb (hdk b r h1 e)
      · exact absurd e (hdn b r h1)
    · have := hLl p hp σ' hu
      rw [hdb _ this.2.1]; exact this.1
  have hR : Run X.C (.code X.f X.m X.rd (.rangeFunc x ps assign body) fr) σ (.code e fr) σd := by
    have := Run.rangeFunc (C := X.C) (f := X.f) (m := X.m) (rd := X.rd) (x := x) (ps := ps) (assign := assign) (body := body) (fr := fr) (σ := σ) (fv := fv) (v := v) (σ' := σ') (r := r) (e := e) (evo_sound hf hfv) (fun l' h => by
      obtain ⟨r0, h1⟩ := hrd l' h
      exact ⟨r0, hz.lp _ h1⟩) (by rw [hσs, hl] at hrun; exact hrun) (by rw [← hl]; exact hlr) hst hex (by rw [hσd]; exact hdead)
    rw [hσd] at this
    exact this
  cases e with
  | normal =>
    obtain ⟨e2, fr', σ2, hk, hq⟩ := hn s (hIe rfl) fr σd hf hpe
    exact ⟨e2, fr', σ2, .codeN hR hk, hq⟩
  | exit id =>
    obtain ⟨i, hi, hJ⟩ := hJe (by simp)
    obtain ⟨e2, fr', σ2, hk, hq⟩ := he i _ s _ hi hJ rfl fr σd hf hpe
    refine ⟨e2, fr', σ2, ?_, hq⟩
    cases hk with
    | codeN h1 h2 => cases h1
    | codeX h1 h2 h3 => cases h1; exact .codeX hR h2 h3
    | codeE h1 h2 => cases h1; exact .codeE hR h2
    | codeR h1 => cases h1
  | ret =>
    obtain ⟨i, hi, hJ⟩ := hJe (by simp)
    obtain ⟨e2, fr', σ2, hk, hq⟩ := he i _ s _ hi hJ rfl fr σd hf hpe
    refine ⟨e2, fr', σ2, ?_, hq⟩
    cases hk with
    | codeN h1 h2 => cases h1
    | codeX h1 h2 h3 => cases h1
    | codeE h1 h2 => cases h1
    | codeR h1 => cases h1; exact .codeR hR

/-- Some of the objects, by place, anew. -/
def zsets : List (Nat × AObj) → List Nat → List AObj → List (Nat × AObj)
  | Z, i :: is, o :: os => zsets (zset Z i o) is os
  | Z, _, _ => Z
def keyAt (Z : List (Nat × AObj)) (i : Nat) : Nat := (Z.getD i (0, .dead)).1

theorem zsets_keys : ∀ (is : List Nat) (os : List AObj) (Z : List (Nat × AObj)), (zsets Z is os).map (·.1) = Z.map (·.1)
  | [], os, Z => by cases os <;> rfl
  | i :: is, [], Z => rfl
  | i :: is, o :: os, Z => by rw [zsets, zsets_keys is os, zset_keys]
theorem zset_len : ∀ (Z : List (Nat × AObj)) (i : Nat) (o : AObj), (zset Z i o).length = Z.length
  | [], _, _ => rfl
  | (b, _) :: Z, 0, o => rfl
  | p :: Z, i + 1, o => by simp [zset, zset_len Z i o]
theorem keyAt_zset : ∀ (Z : List (Nat × AObj)) (i j : Nat) (o : AObj), keyAt (zset Z i o) j = keyAt Z j := fun Z i j o => by
  unfold keyAt
  have h := congrArg (fun l => l[j]?) (zset_keys Z i o)
  simp only [List.getElem?_map] at h
  rw [List.getD_eq_getElem?_getD, List.getD_eq_getElem?_getD]
  cases h1 : (zset Z i o)[j]? with
  | none => rw [h1] at h; cases h2 : Z[j]? with
    | none => rfl
    | some q => rw [h2] at h; simp at h
  | some p => rw [h1] at h; cases h2 : Z[j]? with
    | none => rw [h2] at h; simp at h
    | some q => rw [h2] at h; simp at h; simpa using h
theorem zset_mem2 : ∀ {Z : List (Nat × AObj)} {i : Nat} {o : AObj} {p : Nat × AObj}, i < Z.length → p ∈ zset Z i o → p = (keyAt Z i, o) ∨ p ∈ Z
  | [], i, o, p, h, _ => by simp at h
  | (b, o') :: Z, 0, o, p, _, hp => by
    simp only [zset, List.mem_cons] at hp
    rcases hp with rfl | hp
    · exact .inl rfl
    · exact .inr (by simp [hp])
  | q :: Z, i + 1, o, p, h, hp => by
    simp only [zset, List.mem_cons] at hp
    rcases hp with rfl | hp
    · exact .inr (by simp)
    · rcases zset_mem2 (Z := Z) (by simpa using h) hp with h1 | h1
      · exact .inl (by rw [h1]; simp [keyAt])
      · exact .inr (by simp [h1])
theorem zsets_mem : ∀ {is : List Nat} {os : List AObj} {Z : List (Nat × AObj)} {p : Nat × AObj}, (∀ i ∈ is, i < Z.length) → p ∈ zsets Z is os → (p.2 ∈ os ∧ p.1 ∈ is.map (keyAt Z)) ∨ p ∈ Z
  | [], os, Z, p, _, hp => .inr (by cases os <;> exact hp)
  | i :: is, [], Z, p, _, hp => .inr hp
  | i :: is, o :: os, Z, p, hi, hp => by
    rw [zsets] at hp
    rcases zsets_mem (fun j hj => by rw [zset_len]; exact hi j (by simp [hj])) hp with ⟨h1, h2⟩ | h1
    · refine .inl ⟨by simp [h1], ?_⟩
      obtain ⟨j, hj, e⟩ := List.mem_map.1 h2
      rw [keyAt_zset] at e
      exact List.mem_map.2 ⟨j, by simp [hj], e⟩
    · rcases zset_mem2 (hi i (by simp)) h1 with rfl | h2
      · exact .inl ⟨by simp, by simp⟩
      · exact .inr h2

/-- How the assignment to the loop's variable ends: with the body to come. -/
def EndsA (X Xb : Cx) (Qb : Ex → Fr → St → Prop) (body : Code) (e : Ex) (fr : Fr) (σ : St) : Prop := e = .normal ∧ ∃ ρ2 Z2, FrOK X.n ρ2 fr ∧ Hp X Z2 σ ∧ (∀ p ∈ Z2, ∀ r, p.2 ≠ .loop r) ∧ W Xb Qb [.code body] ρ2 Z2

theorem endsA_of {Xa Xb : Cx} {Qb : Ex → Fr → St → Prop} {body : Code} (hnl : ∀ p ∈ Z, ∀ r, p.2 ≠ .loop r) (h : W Xb Qb [.code body] ρ Z) : W Xa (EndsA Xa Xb Qb body) [] ρ Z := W_nil fun fr σ hf hz => ⟨rfl, _, _, hf, hz, hnl, h⟩

theorem need_new {is ns need : List Nat} (hns : need = ns.map (keyAt Z)) (his : (is.all fun i => Nat.blt i Z.length) = true) (hni : (ns.all fun i => Nat.blt i Z.length && !is.contains i) = true) : ∀ σ, Hp X Z σ → ∀ b ∈ need, b ∉ is.map (keyAt Z) ∧ b < σ.length := fun σ hz b hb => by
  have his' : ∀ i ∈ is, i < Z.length := fun i hi => Nat.le_of_ble_eq_true (List.all_eq_true.1 his i hi)
  have hkz : ∀ i, i < Z.length → ∃ p ∈ Z, p.1 = keyAt Z i := fun i hi => ⟨Z[i], List.getElem_mem hi, by simp [keyAt, hi]⟩
  rw [hns] at hb
  obtain ⟨i, hi, rfl⟩ := List.mem_map.1 hb
  have h1 := List.all_eq_true.1 hni i hi
  simp only [Bool.and_eq_true, Bool.not_eq_true', List.contains_eq_mem, decide_eq_false_iff_not] at h1
  have hlt : i < Z.length := Nat.le_of_ble_eq_true h1.1
  refine ⟨fun hm => ?_, ?_⟩
  · obtain ⟨j, hj, e⟩ := List.mem_map.1 hm
    have hjl := his' j hj
    have hnd := hz.nd
    have e1 : (Z.map (·.1))[i]'(by simpa using hlt) = (Z.map (·.1))[j]'(by simpa using hjl) := by simpa [keyAt, hlt, hjl] using e.symm
    have := (List.getElem_inj hnd).1 e1
    subst this
    exact h1.2 hj
  · obtain ⟨p, hp, e⟩ := hkz i hlt
    rw [← e]
    exact (List.getElem?_eq_some_iff.1 (hz.at_ p hp)).1
theorem need_old {is : List Nat} {b : Nat} {o : AObj} (hb : X.σ0[b]? = some o) (hK : X.K = []) (his : (is.all fun i => Nat.blt i Z.length) = true) : ∀ σ, Hp X Z σ → ∀ b' ∈ [b], b' ∉ is.map (keyAt Z) ∧ b' < σ.length := fun σ hz b' hb' => by
  have hlt := (List.getElem?_eq_some_iff.1 hb).1
  have e : b' = b := by simpa using hb'
  subst e
  refine ⟨fun hm => ?_, Nat.lt_of_lt_of_le hlt hz.len⟩
  obtain ⟨j, hj, e⟩ := List.mem_map.1 hm
  have hjl : j < Z.length := Nat.le_of_ble_eq_true (List.all_eq_true.1 his j hj)
  have h1 := hz.new Z[j] (List.getElem_mem hjl)
  have h2 : keyAt Z j = Z[j].1 := by simp [keyAt, hjl]
  rw [hK, ← h2, e] at h1
  rcases h1 with h1 | h1
  · omega
  · simp at h1
theorem Hp.oldA {σ : St} (h : Hp X Z σ) {b : Nat} {o x : AObj} (hb : X.σ0[b]? = some o) (hK : X.K = []) : (σ ++ [x])[b]? = some o := by
  have hlt := (List.getElem?_eq_some_iff.1 hb).1
  rw [List.getElem?_append_left (Nat.lt_of_lt_of_le hlt h.len), h.old b hlt (by rw [hK]; simp)]; exact hb

/-- A loop over an iterator: is are the places of what its body turns. -/
theorem W_rangeI {S : Type} {x : Operand} {ps : Array Tmp} {assign body : Code} {fv : V} {xs : List V} {σf : St → Prop} {need : List Nat} (is : List Nat) (ms : S → List AObj) (s0 : S) (I : Nat → S → Prop) (J : Nat → Ex → S → Prop)
    (hspec : IterSpec X.C σf fv xs need) (hfv : evo X.n ρ x = some fv) (hKA : X.KA = []) (hrd : ∀ l, X.rd = some l → ∃ r0, (l, r0) ∈ X.L) (hps : ps.size = 1)
    (hσf : ∀ σ o, Hp X Z σ → σf (σ ++ [o])) (his : (is.all fun i => Nat.blt i Z.length) = true) (hneed : ∀ σ, Hp X Z σ → ∀ b ∈ need, b ∉ is.map (keyAt Z) ∧ b < σ.length) (h0 : zsets Z is (ms s0) = Z)
    (hnl : ∀ p ∈ Z, ∀ r, p.2 ≠ .loop r) (hms : ∀ s, ∀ o ∈ ms s, ∀ r, o ≠ .loop r) (hI0 : I 0 s0)
    (hbody : ∀ (i : Nat) v s l σ1 fr, xs[i]? = some v → I i s → W (X.inLoop Z l (loopRec X fr ps assign body .ready none) σ1)
      (EndsA (X.inLoop Z l (loopRec X fr ps assign body .ready none) σ1) (X.inLoop Z l (loopRec X fr ps assign body .busy none) σ1) (EndsB (X.inLoop Z l (loopRec X fr ps assign body .busy none) σ1) (fun s => zsets Z is (ms s)) fun e s' => (e = .normal → I (i + 1) s') ∧ (e ≠ .normal → J i e s')) body)
      [.code assign] (setEnv ρ ps.toList [v]) (zsets Z is (ms s)))
    (hn : ∀ s, I xs.length s → W X Q k ρ (zsets Z is (ms s))) (he : ∀ i e s c, i < xs.length → J i e s → jumpOf e = some c → W X Q (.code c :: k) ρ (zsets Z is (ms s))) : W X Q (.code (.rangeFunc x ps assign body) :: k) ρ Z := by
  have his' : ∀ i ∈ is, i < Z.length := fun i hi => Nat.le_of_ble_eq_true (List.all_eq_true.1 his i hi)
  have hkz : ∀ i, i < Z.length → ∃ p ∈ Z, p.1 = keyAt Z i := fun i hi => ⟨Z[i], List.getElem_mem hi, by simp [keyAt, hi]⟩
  refine W_range (kc := is.map (keyAt Z)) (need := need) (fun s => zsets Z is (ms s)) s0 I J hspec hfv hKA hrd hps hσf hneed h0 (fun s => zsets_keys _ _ _) (fun b hb => ?_) (fun σ s hz p hp hk => ?_) (fun s p hp r => ?_) hI0 (fun i v s l σ1 fr hv hI => hbody i v s l σ1 fr hv hI) hn he
  · obtain ⟨i, hi, rfl⟩ := List.mem_map.1 hb
    obtain ⟨p, hp, e⟩ := hkz i (his' i hi)
    exact List.mem_map.2 ⟨p, hp, e⟩
  · rcases zsets_mem his' hp with ⟨_, h2⟩ | h1
    · exact absurd h2 hk
    · exact h1
  · rcases zsets_mem his' hp with ⟨h1, _⟩ | h1
    · exact hms s _ h1 r
    · exact hnl p h1 r
end
end Go.Ev

set_option linter.unusedSimpArgs false
set_option linter.unusedVariables false
namespace Go.Ev

def bitsOf (acc : List Nat) : List Edge → Nat
  | [] => 0
  | e :: es => if hard e then 2 ^ e.on ||| (acc.getD e.on 0 ||| bitsOf acc es) else bitsOf acc es
/-- For each operation the set of those that are ahead of it in every order. -/
def preGo : List Oper → List Nat → List Nat
  | [], acc => acc
  | x :: xs, acc => preGo xs (acc ++ [bitsOf acc x.after.toList])
def preL (os : List Oper) : List Nat := preGo os []
def isPre (pre : List Nat) (j i : Nat) : Bool := (pre.getD i 0).testBit j

def tmpsOf (os : Array Oper) (x : Oper) : List Nat := opTmps x ++ guardTmps os x

def dataOK2 (os : Array Oper) (pre : List Nat) : Bool :=
  (List.range os.size).all fun i => match os[i]? with
    | some x => (tmpsOf os x).all fun t => (List.range os.size).all fun j => Nat.beq i j || !(dstAt os j == some t) || (bif Nat.blt j i then isPre pre j i else isPre pre i j)
    | none => false
/-- Those that turn the store are in one order. -/
def chainOK (os : Array Oper) (pre : List Nat) (cs : List Nat) : Bool := cs.all fun i => Nat.blt i os.size && cs.all fun j => !(Nat.blt j i) || isPre pre j i
/-- Is an operation before or behind each that turns the store, in every order. -/
def fixedAt (os : Array Oper) (cs : List Nat) (i : Nat) : Bool := cs.all fun j => Nat.beq i j || (bif Nat.blt j i then isPre (preL os.toList) j i else isPre (preL os.toList) i j)
/-- cs: those that turn the store; gl: an order in the way of gc. -/
def drawOK (os : Array Oper) (cs gl : List Nat) : Bool := dstOK os && dataOK2 os (preL os.toList) && chainOK os (preL os.toList) cs && wholeBy os (List.range os.size) (List.range os.size) gl

/-! ### What is ahead -/
theorem bitsOf_sound {acc : List Nat} {j : Nat} : ∀ {es : List Edge}, (bitsOf acc es).testBit j = true → ∃ e ∈ es, hard e = true ∧ (j = e.on ∨ (acc.getD e.on 0).testBit j = true)
  | [], h => by simp [bitsOf] at h
  | e :: es, h => by
    unfold bitsOf at h
    split at h
    · rename_i he
      rw [Nat.testBit_or, Nat.testBit_or, Bool.or_eq_true, Bool.or_eq_true, Nat.testBit_two_pow, decide_eq_true_eq] at h
      rcases h with h | h | h
      · exact ⟨e, by simp, he, .inl h.symm⟩
      · exact ⟨e, by simp, he, .inr h⟩
      · obtain ⟨e', h1, h2⟩ := bitsOf_sound h
        exact ⟨e', by simp [h1], h2⟩
    · obtain ⟨e', h1, h2⟩ := bitsOf_sound h
      exact ⟨e', by simp [h1], h2⟩

theorem preGo_len : ∀ (xs : List Oper) (acc : List Nat), (preGo xs acc).length = acc.length + xs.length
  | [], acc => by simp [preGo]
  | x :: xs, acc => by simp [preGo, preGo_len xs]; omega
theorem preGo_old : ∀ (xs : List Oper) (acc : List Nat) (i : Nat), i < acc.length → (preGo xs acc).getD i 0 = acc.getD i 0
  | [], acc, i, h => rfl
  | x :: xs, acc, i, h => by
    rw [preGo, preGo_old xs _ i (by simp; omega)]
    simp [List.getD_eq_getElem?_getD, List.getElem?_append_left h]
theorem preGo_at : ∀ (xs : List Oper) (acc : List Nat) (i : Nat) (x : Oper), xs[i]? = some x → ∃ acc', (preGo xs acc).getD (acc.length + i) 0 = bitsOf acc' x.after.toList ∧ (∀ b j, (acc'.getD b 0).testBit j = true → ((preGo xs acc).getD b 0).testBit j = true ∧ b < acc.length + i)
  | [], acc, i, x, h => by simp at h
  | y :: xs, acc, 0, x, h => by
    simp at h; subst h
    refine ⟨acc, ?_, fun b j hb => ?_⟩
    · rw [preGo, preGo_old _ _ _ (by simp)]
      simp [List.getD_eq_getElem?_getD]
    · have hlt : b < acc.length := by
        rcases Nat.lt_or_ge b acc.length with h1 | h1
        · exact h1
        · rw [List.getD_eq_getElem?_getD, List.getElem?_eq_none h1] at hb; simp at hb
      exact ⟨by rw [preGo_old _ _ _ hlt]; exact hb, by omega⟩
  | y :: xs, acc, i + 1, x, h => by
    simp at h
    obtain ⟨acc', h1, h2⟩ := preGo_at xs (acc ++ [bitsOf acc y.after.toList]) i x h
    refine ⟨acc', ?_, fun b j hb => ?_⟩
    · rw [preGo]; simpa [Nat.add_assoc, Nat.add_comm 1] using h1
    · have := h2 b j hb
      rw [preGo]
      refine ⟨this.1, ?_⟩
      have := this.2
      simp at this
      omega

/-- What is ahead of an operation is done if the edges are kept. -/
theorem pre_done {md : Region.Mode} {os : Array Oper} {D : List Nat} (hD : ∀ i ∈ D, ∀ e ∈ afterOf os i, Region.binds md e = true → e.on ∈ D) {i j : Nat} (hi : i < os.size) (hb : ∀ e ∈ afterOf os i, Region.binds md e = true → e.on ∈ D) (hp : isPre (preL os.toList) j i = true) : j ∈ D := by
  have key : ∀ (n i : Nat), i ≤ n → i < os.size → (∀ e ∈ afterOf os i, Region.binds md e = true → e.on ∈ D) → ∀ j, ((preL os.toList).getD i 0).testBit j = true → j ∈ D := by
    intro n
    induction n with
    | zero =>
      intro i hn hi hb j hj
      obtain ⟨acc', h1, h2⟩ := preGo_at os.toList [] i os[i] (by simp [hi])
      rw [preL, show i = ([] : List Nat).length + i by simp, h1] at hj
      obtain ⟨e, he, hh, hj⟩ := bitsOf_sound hj
      have hin : e.on ∈ D := hb e (by simp [afterOf, hi]; simpa using he) (hard_binds hh)
      rcases hj with rfl | hj
      · exact hin
      · have := (h2 _ _ hj).2; simp at this; omega
    | succ n ih =>
      intro i hn hi hb j hj
      obtain ⟨acc', h1, h2⟩ := preGo_at os.toList [] i os[i] (by simp [hi])
      rw [preL, show i = ([] : List Nat).length + i by simp, h1] at hj
      obtain ⟨e, he, hh, hj⟩ := bitsOf_sound hj
      have hin : e.on ∈ D := hb e (by simp [afterOf, hi]; simpa using he) (hard_binds hh)
      rcases hj with rfl | hj
      · exact hin
      · have h3 := h2 _ _ hj
        simp only [List.length_nil, Nat.zero_add] at h3
        exact ih e.on (by omega) (by omega) (fun e' he' hb' => hD _ hin e' he' hb') j h3.1
  exact key i i (Nat.le_refl _) hi hb j hp

section
variable {X : Cx} {Q : Ex → Fr → St → Prop} {k : List Itm} {ρ : Env} {Z Zr : List (Nat × AObj)} {os : Array Oper} {cs : List Nat}

/-- One operation goes ahead. -/
def StepAt (X : Cx) (os : Array Oper) (x : Oper) (fr : Fr) (σ : St) (v : V) (σ' : St) : Prop :=
  ∀ i l o σ2, os[i]? = some x → Run X.C (.ops X.f X.m os l (put fr x.dst v)) σ' o σ2 → Run X.C (.ops X.f X.m os (i :: l) fr) σ o σ2
def Agree (ts : List Nat) (fr fr' : Fr) : Prop := fr'.length = fr.length ∧ ∀ t ∈ ts, get fr' t = get fr t

/-- A region in the order of its text; what floats needs but Zr. -/
inductive ExecE (X : Cx) (os : Array Oper) (cs : List Nat) (Zr : List (Nat × AObj)) : Nat → List Oper → Fr → St → Fr → St → Prop where
  | nil {n fr σ} : Hp X Zr σ → ExecE X os cs Zr n [] fr σ fr σ
  | flo {n x xs fr σ v fr' σ'} : Hp X Zr σ → (∀ fr1 σ1, Agree (tmpsOf os x) fr fr1 → Hp X Zr σ1 → StepAt X os x fr1 σ1 v σ1) → ExecE X os cs Zr (n + 1) xs (put fr x.dst v) σ fr' σ' → ExecE X os cs Zr n (x :: xs) fr σ fr' σ'
  | loc {n x xs fr σ v fr' σ'} : Hp X Zr σ → fixedAt os cs n = true → (∀ fr1, Agree (tmpsOf os x) fr fr1 → StepAt X os x fr1 σ v σ) → ExecE X os cs Zr (n + 1) xs (put fr x.dst v) σ fr' σ' → ExecE X os cs Zr n (x :: xs) fr σ fr' σ'
  | chn {n x xs fr σ v σ1 fr' σ'} : Hp X Zr σ → cs.contains n = true → (∀ fr1, Agree (tmpsOf os x) fr fr1 → StepAt X os x fr1 σ v σ1) → ExecE X os cs Zr (n + 1) xs (put fr x.dst v) σ1 fr' σ' → ExecE X os cs Zr n (x :: xs) fr σ fr' σ'

theorem get_put_self {fr : Fr} {d : Nat} {v : V} : get (put fr (some d) v) d = if d < fr.length then v else V.undef := by
  simp only [put, get, List.getD_eq_getElem?_getD]
  split
  · rename_i h; rw [List.getElem?_set_self h]; rfl
  · rename_i h; rw [List.getElem?_eq_none (by simp; omega)]; rfl
theorem get_put_ne {fr : Fr} {d : Option Tmp} {v : V} {t : Nat} (h : d ≠ some t) : get (put fr d v) t = get fr t := by
  cases d with
  | none => rfl
  | some d =>
    simp only [put, get, List.getD_eq_getElem?_getD]
    rw [List.getElem?_set_ne (by rintro rfl; exact h rfl)]
theorem put_len {fr : Fr} {d : Option Tmp} {v : V} : (put fr d v).length = fr.length := by cases d <;> simp [put]

/-- The way of a region, step by step. -/
theorem exec_way {n : Nat} {xs : List Oper} {fr fr' : Fr} {σ σ' : St} (h : ExecE X os cs Zr n xs fr σ fr' σ') : ∃ (F : Nat → Fr) (S : Nat → St) (v : Nat → V), F 0 = fr ∧ S 0 = σ ∧ F xs.length = fr' ∧ S xs.length = σ' ∧ (∀ i, i ≤ xs.length → Hp X Zr (S i)) ∧
    ∀ i x, xs[i]? = some x → F (i + 1) = put (F i) x.dst (v i) ∧ ((S (i + 1) = S i ∧ ∀ fr1 σ1, Agree (tmpsOf os x) (F i) fr1 → Hp X Zr σ1 → StepAt X os x fr1 σ1 (v i) σ1) ∨ (S (i + 1) = S i ∧ fixedAt os cs (n + i) = true ∧ ∀ fr1, Agree (tmpsOf os x) (F i) fr1 → StepAt X os x fr1 (S i) (v i) (S i)) ∨ (cs.contains (n + i) = true ∧ ∀ fr1, Agree (tmpsOf os x) (F i) fr1 → StepAt X os x fr1 (S i) (v i) (S (i + 1)))) := by
  induction h with
  | nil hz => exact ⟨fun _ => _, fun _ => _, fun _ => V.undef, rfl, rfl, rfl, rfl, fun i hi => hz, fun i x h => by simp at h⟩
  | @flo n x xs fr σ v fr' σ' hz hs _ ih =>
    obtain ⟨F, S, vs, h1, h2, h3, h4, h5, h6⟩ := ih
    refine ⟨fun i => match i with | 0 => fr | i + 1 => F i, fun i => match i with | 0 => σ | i + 1 => S i, fun i => match i with | 0 => v | i + 1 => vs i, rfl, rfl, h3, h4, fun i hi => ?_, fun i y hy => ?_⟩
    · cases i with
      | zero => exact hz
      | succ i => exact h5 i (by simpa using hi)
    · cases i with
      | zero =>
        simp at hy; subst hy
        exact ⟨h1, .inl ⟨h2, hs⟩⟩
      | succ i => have := h6 i y (by simpa using hy); rw [show n + 1 + i = n + (i + 1) by omega] at this; exact this
  | @loc n x xs fr σ v fr' σ' hz hc hs _ ih =>
    obtain ⟨F, S, vs, h1, h2, h3, h4, h5, h6⟩ := ih
    refine ⟨fun i => match i with | 0 => fr | i + 1 => F i, fun i => match i with | 0 => σ | i + 1 => S i, fun i => match i with | 0 => v | i + 1 => vs i, rfl, rfl, h3, h4, fun i hi => ?_, fun i y hy => ?_⟩
    · cases i with
      | zero => exact hz
      | succ i => exact h5 i (by simpa using hi)
    · cases i with
      | zero =>
        simp at hy; subst hy
        exact ⟨h1, .inr (.inl ⟨h2, hc, hs⟩)⟩
      | succ i => have := h6 i y (by simpa using hy); rw [show n + 1 + i = n + (i + 1) by omega] at this; exact this
  | @chn n x xs fr σ v σ1 fr' σ' hz hc hs _ ih =>
    obtain ⟨F, S, vs, h1, h2, h3, h4, h5, h6⟩ := ih
    refine ⟨fun i => match i with | 0 => fr | i + 1 => F i, fun i => match i with | 0 => σ | i + 1 => S i, fun i => match i with | 0 => v | i + 1 => vs i, rfl, rfl, h3, h4, fun i hi => ?_, fun i y hy => ?_⟩
    · cases i with
      | zero => exact hz
      | succ i => exact h5 i (by simpa using hi)
    · cases i with
      | zero =>
        simp at hy; subst hy
        exact ⟨h1, .inr (.inr ⟨hc, fun fr1 ha => by show StepAt X os x fr1 σ v (S 0); rw [h2]; exact hs fr1 ha⟩)⟩
      | succ i => have := h6 i y (by simpa using hy); rw [show n + 1 + i = n + (i + 1) by omega] at this; exact this

theorem draw_any {md : Region.Mode} {l : List Nat} {gl : List Nat} (hok : drawOK os cs gl = true) (hp : Path md os [] l) (hlen : l.length = os.size) {fr fr' : Fr} {σ σ' : St} (h : ExecE X os cs Zr 0 os.toList fr σ fr' σ') : Run X.C (.ops X.f X.m os l fr) σ (.code .normal fr') σ' := by
  simp only [drawOK, Bool.and_eq_true] at hok
  obtain ⟨⟨⟨hdst, hdata⟩, hchain⟩, -⟩ := hok
  have hdst' : ∀ i j d, dstAt os i = some d → dstAt os j = some d → i = j := fun i j d hi hj => by
    have hi' : i < os.size := by
      rcases Nat.lt_or_ge i os.size with h | h
      · exact h
      · simp [dstAt, h] at hi
    have hj' : j < os.size := by
      rcases Nat.lt_or_ge j os.size with h | h
      · exact h
      · simp [dstAt, h] at hj
    have := List.all_eq_true.1 (List.all_eq_true.1 hdst i (by simpa using hi')) j (by simpa using hj')
    rw [hi, hj] at this
    simp at this
    exact this
  have hdata' : ∀ i j t x, os[i]? = some x → t ∈ tmpsOf os x → dstAt os j = some t → i ≠ j → (j < i ∧ isPre (preL os.toList) j i = true) ∨ (i < j ∧ isPre (preL os.toList) i j = true) := fun i j t x hx ht hj hne => by
    have hi' : i < os.size := (Array.getElem?_eq_some_iff.1 hx).1
    have hj' : j < os.size := by
      rcases Nat.lt_or_ge j os.size with h | h
      · exact h
      · simp [dstAt, h] at hj
    have := List.all_eq_true.1 hdata i (by simpa using hi')
    rw [hx] at this
    have := List.all_eq_true.1 (List.all_eq_true.1 this t ht) j (by simpa using hj')
    have hne' : Nat.beq i j = false := by rw [Bool.eq_false_iff]; intro h; exact hne (Nat.eq_of_beq_eq_true h)
    rw [hne', hj] at this
    simp only [Bool.false_or, beq_self_eq_true, Bool.not_true] at this
    rcases Nat.lt_or_ge j i with h1 | h1
    · have hb : Nat.blt j i = true := Nat.ble_eq_true_of_le h1
      rw [hb] at this
      exact .inl ⟨h1, this⟩
    · have hb : Nat.blt j i = false := by rw [Bool.eq_false_iff]; intro h; exact absurd (Nat.le_of_ble_eq_true h) (Nat.not_lt.2 h1)
      rw [hb] at this
      exact .inr ⟨by omega, this⟩
  have hcsz : ∀ i ∈ cs, i < os.size := fun i hi => by
    have := List.all_eq_true.1 hchain i hi
    simp only [Bool.and_eq_true] at this
    exact Nat.le_of_ble_eq_true this.1
  have hchain' : ∀ i j, i ∈ cs → j ∈ cs → j < i → isPre (preL os.toList) j i = true := fun i j hi hj hji => by
    have := List.all_eq_true.1 hchain i hi
    simp only [Bool.and_eq_true] at this
    have h2 := List.all_eq_true.1 this.2 j hj
    rw [show Nat.blt j i = true from Nat.ble_eq_true_of_le hji] at h2
    simpa using h2
  obtain ⟨F, S, v, f1, f2, f3, f4, f5, f6⟩ := exec_way h
  subst f1; subst f2; subst f3; subst f4
  have hsz : os.toList.length = os.size := by simp
  rw [hsz] at f5 ⊢
  have f6 : ∀ i x, os[i]? = some x → _ := fun i x hx => f6 i x (by simpa using hx)
  -- the frames
  have hFl : ∀ i, i ≤ os.size → (F i).length = (F 0).length := by
    intro i
    induction i with
    | zero => intro _; rfl
    | succ i ih =>
      intro hi
      rw [(f6 i os[i] (by simp)).1, put_len]
      exact ih (by omega)
  have hdx : ∀ i x t, os[i]? = some x → x.dst = some t → dstAt os i = some t := fun i x t hx hd => by simp [dstAt, hx, hd]
  have hFu : ∀ i, i ≤ os.size → ∀ t, (∀ w, w < i → dstAt os w ≠ some t) → get (F i) t = get (F 0) t := by
    intro i
    induction i with
    | zero => intro _ t _; rfl
    | succ i ih =>
      intro hi t ht
      have hx : os[i]? = some os[i] := by simp
      rw [(f6 i _ hx).1, get_put_ne (fun h => ht i (by omega) (hdx i _ t hx h))]
      exact ih (by omega) t fun w hw => ht w (by omega)
  have hFd : ∀ i, i ≤ os.size → ∀ w t, w < i → dstAt os w = some t → get (F i) t = get (F (w + 1)) t := by
    intro i
    induction i with
    | zero => intro _ w t hw; omega
    | succ i ih =>
      intro hi w t hw hd
      rcases Nat.lt_succ_iff_lt_or_eq.1 hw with h1 | rfl
      · have hx : os[i]? = some os[i] := by simp
        rw [(f6 i _ hx).1, get_put_ne (fun h => by have := hdst' _ _ _ (hdx i _ t hx h) hd; omega)]
        exact ih (by omega) w t h1 hd
      · rfl
  -- the stores
  have hSc : ∀ a b, a ≤ b → b ≤ os.size → (∀ i, a ≤ i → i < b → i ∉ cs) → S b = S a := by
    intro a b hab
    induction b with
    | zero => intro _ _; rw [show a = 0 by omega]
    | succ b ih =>
      intro hb hc
      rcases Nat.lt_or_eq_of_le hab with h1 | rfl
      · have hx : os[b]? = some os[b] := by simp
        rcases (f6 b _ hx).2 with ⟨h2, -⟩ | ⟨h2, -⟩ | ⟨h2, -⟩
        · rw [h2]; exact ih (by omega) (by omega) fun i h3 h4 => hc i h3 (by omega)
        · rw [h2]; exact ih (by omega) (by omega) fun i h3 h4 => hc i h3 (by omega)
        · rw [Nat.zero_add] at h2; exact absurd (by simpa using h2) (hc b (by omega) (by omega))
      · rfl
  -- along the way
  have key : ∀ (l : List Nat) (D : List Nat) (g : Fr) (m : Nat), Path md os D l → (∀ i ∈ D, ∀ e ∈ afterOf os i, Region.binds md e = true → e.on ∈ D) → (∀ i ∈ D, i < os.size) → (∀ i, i < os.size → i ∈ D ∨ i ∈ l) → g.length = (F 0).length →
      (∀ w ∈ D, ∀ t, dstAt os w = some t → get g t = get (F os.size) t) → (∀ t, (∀ w ∈ D, dstAt os w ≠ some t) → get g t = get (F 0) t) → m ≤ os.size → (∀ i, i ∈ cs → (i ∈ D ↔ i < m)) →
      Run X.C (.ops X.f X.m os l g) (S m) (.code .normal (F os.size)) (S os.size) := by
    intro l
    induction l with
    | nil =>
      intro D g m _ hD hDl hall hg hgd hgu hm hc
      have e1 : g = F os.size := by
        apply List.ext_getElem (by rw [hg, hFl _ (Nat.le_refl _)])
        intro i h1 h2
        have hgi : get g i = g[i] := by simp [get, List.getD_eq_getElem?_getD, h1]
        have hfi : get (F os.size) i = (F os.size)[i] := by simp [get, List.getD_eq_getElem?_getD, h2]
        rw [← hgi, ← hfi]
        by_cases hw : ∃ w ∈ D, dstAt os w = some i
        · obtain ⟨w, hw, hd⟩ := hw; exact hgd w hw i hd
        · have hw' : ∀ w ∈ D, dstAt os w ≠ some i := fun w h1 h2 => hw ⟨w, h1, h2⟩
          rw [hgu i hw', hFu os.size (Nat.le_refl _) i (fun w hlt => hw' w ((hall w hlt).resolve_right (by simp)))]
      have e2 : S os.size = S m := hSc m os.size hm (Nat.le_refl _) fun i h1 h2 hcx => by
        have := (hc i hcx).1 ((hall i h2).resolve_right (by simp))
        omega
      rw [e1, e2]
      exact .nil
    | cons i l ih =>
      intro D g m hp hD hDl hall hg hgd hgu hm hc
      cases hp with
      | cons hi hnd hb hp' =>
      have hx : os[i]? = some os[i] := by simp [hi]
      generalize os[i] = x at hx
      have hpre : ∀ j, isPre (preL os.toList) j i = true → j ∈ D := fun j hj => pre_done hD hi hb hj
      have hpost : ∀ j, j ∈ D → isPre (preL os.toList) i j = true → False := fun j hj hp => hnd (pre_done hD (hDl j hj) (hD j hj) hp)
      have hag : Agree (tmpsOf os x) (F i) g := by
        refine ⟨by rw [hg, hFl i (by omega)], fun t ht => ?_⟩
        by_cases hw : ∃ w, dstAt os w = some t
        · obtain ⟨w, hw⟩ := hw
          have huniq : ∀ w', dstAt os w' = some t → w' = w := fun w' h => hdst' _ _ _ h hw
          by_cases hiw : i = w
          · subst hiw
            rw [hgu t (fun w' h1 h2 => hnd (huniq w' h2 ▸ h1)), hFu i (by omega) t (fun w' h1 h2 => by have := huniq w' h2; omega)]
          · rcases hdata' i w t x hx ht hw hiw with ⟨h1, h2⟩ | ⟨h1, h2⟩
            · rw [hgd w (hpre w h2) t hw, hFd os.size (Nat.le_refl _) w t (by omega) hw, hFd i (by omega) w t h1 hw]
            · rw [hgu t (fun w' h3 h4 => hpost w' h3 (huniq w' h4 ▸ h2)), hFu i (by omega) t (fun w' h3 h4 => by have := huniq w' h4; omega)]
        · have hw' : ∀ w, dstAt os w ≠ some t := fun w h => hw ⟨w, h⟩
          rw [hgu t fun w _ => hw' w, hFu i (by omega) t fun w _ => hw' w]
      have hgl : (put g x.dst (v i)).length = (F 0).length := by rw [put_len, hg]
      have hD2 : ∀ j ∈ i :: D, ∀ e ∈ afterOf os j, Region.binds md e = true → e.on ∈ i :: D := fun j hj e he hbe => by
        rcases List.mem_cons.1 hj with rfl | hj
        · exact List.mem_cons_of_mem _ (hb e he hbe)
        · exact List.mem_cons_of_mem _ (hD j hj e he hbe)
      have hDl2 : ∀ j ∈ i :: D, j < os.size := fun j hj => by
        rcases List.mem_cons.1 hj with rfl | hj
        · exact hi
        · exact hDl j hj
      have hall2 : ∀ j, j < os.size → j ∈ i :: D ∨ j ∈ l := fun j hj => by
        rcases hall j hj with h1 | h1
        · exact .inl (List.mem_cons_of_mem _ h1)
        · rcases List.mem_cons.1 h1 with rfl | h1
          · exact .inl (List.mem_cons_self ..)
          · exact .inr h1
      have hgd2 : ∀ w ∈ i :: D, ∀ t, dstAt os w = some t → get (put g x.dst (v i)) t = get (F os.size) t := fun w hw t hd => by
        rcases List.mem_cons.1 hw with rfl | hw
        · have hxd : x.dst = some t := by simpa [dstAt, hx] using hd
          rw [hFd os.size (Nat.le_refl _) w t hi hd, (f6 w x hx).1, hxd, get_put_self, get_put_self, hg, hFl w (by omega)]
        · by_cases hxd : x.dst = some t
          · have := hdst' _ _ _ (hdx i x t hx hxd) hd
            exact absurd (this ▸ hw) hnd
          · rw [get_put_ne hxd]; exact hgd w hw t hd
      have hgu2 : ∀ t, (∀ w ∈ i :: D, dstAt os w ≠ some t) → get (put g x.dst (v i)) t = get (F 0) t := fun t ht => by
        rw [get_put_ne (fun h => ht i (by simp) (hdx i x t hx h))]
        exact hgu t fun w hw => ht w (by simp [hw])
      by_cases hcx : i ∈ cs
      · -- the store is just where it is to be
        have hmi : m ≤ i := by
          rcases Nat.lt_or_ge i m with h1 | h1
          · exact absurd ((hc i hcx).2 h1) hnd
          · exact h1
        have hSm : S i = S m := hSc m i hmi (by omega) fun j h1 h2 hcy => by
          have := (hc j hcy).1 (hpre j (hchain' i j hcx hcy h2))
          omega
        have hc2 : ∀ j, j ∈ cs → (j ∈ i :: D ↔ j < i + 1) := fun j hcy => by
          constructor
          · intro h
            rcases List.mem_cons.1 h with rfl | h
            · omega
            · have := (hc j hcy).1 h; omega
          · intro h
            rcases Nat.lt_succ_iff_lt_or_eq.1 h with h | rfl
            · exact List.mem_cons_of_mem _ (hpre j (hchain' i j hcx hcy h))
            · exact List.mem_cons_self ..
        have hrest := ih (i :: D) (put g x.dst (v i)) (i + 1) hp' hD2 hDl2 hall2 hgl hgd2 hgu2 (by omega) hc2
        rcases (f6 i x hx).2 with ⟨h1, h2⟩ | ⟨h1, -, h2⟩ | ⟨-, h2⟩
        · have := h2 g (S m) hag (f5 m hm) i l _ _ hx (by rw [h1, hSm] at hrest; exact hrest)
          exact this
        · have := h2 g hag i l _ _ hx (by rw [h1] at hrest; exact hrest)
          rw [hSm] at this
          exact this
        · have := h2 g hag i l _ _ hx hrest
          rw [hSm] at this
          exact this
      · have hc2 : ∀ j, j ∈ cs → (j ∈ i :: D ↔ j < m) := fun j hcy => by
          rw [← hc j hcy]
          constructor
          · intro h
            rcases List.mem_cons.1 h with rfl | h
            · exact absurd hcy hcx
            · exact h
          · exact List.mem_cons_of_mem _
        have hrest := ih (i :: D) (put g x.dst (v i)) m hp' hD2 hDl2 hall2 hgl hgd2 hgu2 hm hc2
        rcases (f6 i x hx).2 with ⟨h1, h2⟩ | ⟨h1, hfix, h2⟩ | ⟨h1, -⟩
        · exact h2 g (S m) hag (f5 m hm) i l _ _ hx hrest
        · rw [Nat.zero_add] at hfix
          have hfx : ∀ j, j ∈ cs → i ≠ j → (j < i ∧ isPre (preL os.toList) j i = true) ∨ (i < j ∧ isPre (preL os.toList) i j = true) := fun j hcy hne => by
            have := List.all_eq_true.1 hfix j hcy
            have hne' : Nat.beq i j = false := by rw [Bool.eq_false_iff]; intro h; exact hne (Nat.eq_of_beq_eq_true h)
            simp only [hne', Bool.false_or] at this
            rcases Nat.lt_or_ge j i with h1 | h1
            · have hb : Nat.blt j i = true := Nat.ble_eq_true_of_le h1
              rw [hb] at this
              exact .inl ⟨h1, this⟩
            · have hb : Nat.blt j i = false := by rw [Bool.eq_false_iff]; intro h; exact absurd (Nat.le_of_ble_eq_true h) (Nat.not_lt.2 h1)
              rw [hb] at this
              exact .inr ⟨by omega, this⟩
          have hiff : ∀ j, j ∈ cs → (j < i ↔ j < m) := fun j hcy => by
            have hne : i ≠ j := by rintro rfl; exact hcx hcy
            rw [← hc j hcy]
            constructor
            · intro h
              rcases hfx j hcy hne with ⟨_, h4⟩ | ⟨h4, _⟩
              · exact hpre j h4
              · omega
            · intro h
              rcases hfx j hcy hne with ⟨h4, _⟩ | ⟨_, h4⟩
              · exact h4
              · exact absurd h4 (fun h4 => hpost j h h4)
          have hSm : S m = S i := by
            rcases Nat.le_total m i with h1 | h1
            · exact (hSc m i h1 (by omega) fun j h3 h4 hcy => by
                have := (hiff j hcy).1 h4
                omega).symm
            · exact hSc i m h1 hm fun j h3 h4 hcy => by
                have := (hiff j hcy).2 h4
                omega
          rw [hSm] at hrest ⊢
          exact h2 g hag i l _ _ hx hrest
        · rw [Nat.zero_add] at h1; exact absurd (by simpa using h1) hcx
  have hn : ∀ i, i < os.size → i ∈ l := by
    have hnd : ∀ {l D : List Nat}, Path md os D l → l.Nodup ∧ (∀ i ∈ l, i ∉ D) ∧ ∀ i ∈ l, i < os.size := by
      intro l
      induction l with
      | nil => intro D _; simp
      | cons i l ih =>
        intro D hp
        cases hp with
        | cons hi hnd hb hp' =>
          obtain ⟨h1, h2, h3⟩ := ih hp'
          refine ⟨List.nodup_cons.2 ⟨fun h => h2 i h (by simp), h1⟩, fun j hj => ?_, fun j hj => ?_⟩
          · rcases List.mem_cons.1 hj with rfl | hj
            · exact hnd
            · exact fun h => h2 j hj (by simp [h])
          · rcases List.mem_cons.1 hj with rfl | hj
            · exact hi
            · exact h3 j hj
    obtain ⟨h1, -, h3⟩ := hnd hp
    exact full_of h1 h3 hlen
  exact key l [] (F 0) 0 hp (by simp) (by simp) (fun i hi => .inr (hn i hi)) rfl (by simp) (fun t _ => rfl) (Nat.zero_le _) (fun i hc => by simp)

/-- A drawn region: on from its text's order. -/
def DE (X : Cx) (Q : Ex → Fr → St → Prop) (k : List Itm) (os : Array Oper) (cs : List Nat) (Zr : List (Nat × AObj)) (n : Nat) (xs : List Oper) (ρ : Env) (Z : List (Nat × AObj)) : Prop :=
  ∀ fr σ, FrOK X.n ρ fr → Hp X Z σ → ∃ fr1 σ1, ExecE X os cs Zr n xs fr σ fr1 σ1 ∧ ∃ e fr' σ', RunK X.C X.f X.m X.rd k fr1 σ1 e fr' σ' ∧ Q e fr' σ'

theorem W_draw {id : Nat} {xs : List Oper} (Zr : List (Nat × AObj)) (hx : os.toList = xs) {gl : List Nat} (hok : drawOK os cs gl = true) (h : DE X Q k os cs Zr 0 xs ρ Z) : W X Q (.code (.region id os true) :: k) ρ Z := fun fr σ hf hz => by
  subst hx
  obtain ⟨fr1, σ1, hex, e, fr', σ', hr, hq⟩ := h fr σ hf hz
  refine ⟨e, fr', σ', .codeN (.regionD fun t => ?_) hr, hq⟩
  have hw : wholeBy os (List.range os.size) (List.range os.size) gl = true := by simp only [drawOK, Bool.and_eq_true] at hok; exact hok.2
  obtain ⟨md, hp, hl⟩ := schedule_path hw (X.C.P.follows .mixedOrders) t
  exact draw_any hok hp hl hex

variable {n : Nat}
theorem DE_nil (hs : Zr.Sublist Z) (h : W X Q k ρ Z) : DE X Q k os cs Zr n [] ρ Z := fun fr σ hf hz => ⟨fr, σ, .nil (hz.less hs), h fr σ hf hz⟩

theorem agree_frOK {x : Oper} {fr fr1 : Fr} {n : Nat} (hf : FrOK n ρ fr) (ha : Agree (tmpsOf os x) fr fr1) : ∀ y ∈ x.op.operands.toList, evalO fr1 y = evalO fr y := fun y hy => by
  cases y with
  | tmp t =>
    simp only [evalO]
    rw [ha.2 t (by unfold tmpsOf opTmps; rw [List.mem_append, List.mem_filterMap]; exact .inl ⟨_, hy, rfl⟩)]
  | _ => rfl
theorem agree_want {x : Oper} {fr fr1 : Fr} {b : Bool} (ha : Agree (tmpsOf os x) fr fr1) (h : wantedV os x fr = b) : wantedV os x fr1 = b := by
  rw [← h]
  unfold wantedV
  cases hg : x.guard with
  | none => rfl
  | some jw =>
    obtain ⟨j, want⟩ := jw
    simp only
    cases hd : (os[j]?).bind (·.dst) with
    | none => rfl
    | some d =>
      simp only [Option.bind_some]
      have h1 := ha.2 d (by unfold tmpsOf guardTmps; rw [hg]; simp [dstAt, hd])
      have hl := ha.1
      rcases Nat.lt_or_ge d fr.length with h2 | h2
      · have e1 : fr1[d]? = some (get fr1 d) := by simp [get, List.getD_eq_getElem?_getD, hl, h2]
        have e2 : fr[d]? = some (get fr d) := by simp [get, List.getD_eq_getElem?_getD, h2]
        rw [e1, e2, h1]
      · rw [List.getElem?_eq_none h2, List.getElem?_eq_none (by omega)]

/-- What floats: a pure operation. -/
theorem DE_pureW {x : Oper} {xs : List Oper} {d : Nat} {v : V} (hs : Zr.Sublist Z) (hw : ∀ fr, FrOK X.n ρ fr → wantedV os x fr = true) (hd : x.dst = some d) (hv : PureOp X ρ Zr x.op v) (h : DE X Q k os cs Zr (n + 1) xs (upd ρ d v) Z) : DE X Q k os cs Zr n (x :: xs) ρ Z := fun fr σ hf hz => by
  obtain ⟨fr1, σ1, hex, hr⟩ := h _ σ (frOK_put hf d v) hz
  refine ⟨fr1, σ1, .flo (v := v) (hz.less hs) (fun fr2 σ2 ha hz2 i l o σ3 hi hrun => ?_) (by rw [hd]; exact hex), hr⟩
  exact .op hi (agree_want ha (hw fr hf)) (by rw [opV_agree (agree_frOK hf ha)]; exact hv _ fr σ2 hf hz2) hrun
/-- It does not go ahead. -/
theorem DE_idleW {x : Oper} {xs : List Oper} {d : Nat} (hs : Zr.Sublist Z) (hw : ∀ fr, FrOK X.n ρ fr → wantedV os x fr = false) (hd : x.dst = some d) (h : DE X Q k os cs Zr (n + 1) xs (upd ρ d V.undef) Z) : DE X Q k os cs Zr n (x :: xs) ρ Z := fun fr σ hf hz => by
  obtain ⟨fr1, σ1, hex, hr⟩ := h _ σ (frOK_put hf d V.undef) hz
  exact ⟨fr1, σ1, .flo (v := V.undef) (hz.less hs) (fun fr2 σ2 ha hz2 i l o σ3 hi hrun => .idle hi (agree_want ha (hw fr hf)) hrun) (by rw [hd]; exact hex), hr⟩
/-- A call that leaves the store as it was. -/
theorem DE_callW {x : Oper} {xs : List Oper} {d : Nat} {fx : Operand} {args : Array Operand} {ts : Array TypeId} {fv v : V} {vs : List V} (hs : Zr.Sublist Z) (hw : ∀ fr, FrOK X.n ρ fr → wantedV os x fr = true) (hd : x.dst = some d) (hx : x.op = .call { callee := .value fx, args := args, argTypes := ts })
    (hraw : X.C.raw X.f X.m d = false) (hfv : evo X.n ρ fx = some fv) (hvs : evl X.n ρ args.toList = some vs) (hrun : ∀ σ, Hp X Zr σ → Run X.C (.app false fv vs) σ (.val v) σ) (h : DE X Q k os cs Zr (n + 1) xs (upd ρ d v) Z) : DE X Q k os cs Zr n (x :: xs) ρ Z := fun fr σ hf hz => by
  obtain ⟨fr1, σ1, hex, hr⟩ := h _ σ (frOK_put hf d v) hz
  refine ⟨fr1, σ1, .flo (v := v) (hz.less hs) (fun fr2 σ2 ha hz2 i l o σ3 hi hr2 => ?_) (by rw [hd]; exact hex), hr⟩
  have hag := agree_frOK hf ha
  have hop : x.op.operands.toList = fx :: args.toList := by rw [hx]; simp [Op.operands, Call.operands]
  rw [hop] at hag
  refine .call hi (agree_want ha (hw fr hf)) hx (by rw [hag fx (by simp)]; exact evo_sound hf hfv) ?_ (by rw [hd, Option.getD_some, hraw]; exact hrun σ2 hz2) hr2
  rw [show evalL fr2 args.toList = evalL fr args.toList from evalL_agree fun y hy => hag y (by simp [hy])]
  exact evl_sound hf hvs

/-- What an operation makes of the store: a value by the place of what is new. -/
def OpNew (X : Cx) (ρ : Env) (Z : List (Nat × AObj)) (o : Op) (v : Nat → V) (Z' : Nat → List (Nat × AObj)) : Prop :=
  ∀ d fr σ, FrOK X.n ρ fr → Hp X Z σ → ∃ b σ', X.σ0.length ≤ b ∧ opV X.C.P (X.C.own X.f X.m d) fr σ o = some (v b, σ') ∧ Hp X (Z' b) σ'

theorem W_opNew {x : Oper} {xs : List Oper} {d : Nat} {v : Nat → V} {Z' : Nat → List (Nat × AObj)} (hg : x.guard = none) (hd : x.dst = some d) (hv : OpNew X ρ Z x.op v Z') (h : ∀ b, X.σ0.length ≤ b → W X Q (.ops os xs :: k) (upd ρ d (v b)) (Z' b)) : W X Q (.ops os (x :: xs) :: k) ρ Z :=
  W_step fun fr σ hf hz => by
    obtain ⟨b, σ', hb, ho, hz'⟩ := hv (x.dst.getD 0) fr σ hf hz
    exact ⟨_, _, put fr (some d) (v b), σ', frOK_put hf d _, hz', h b hb, fun i l o' σ2 hi hr => .op hi (by simp [wantedV, hg]) ho (by rw [hd]; exact hr)⟩
theorem W_opNew0 {x : Oper} {xs : List Oper} {v : Nat → V} {Z' : Nat → List (Nat × AObj)} (hg : x.guard = none) (hd : x.dst = none) (hv : OpNew X ρ Z x.op v Z') (h : ∀ b, X.σ0.length ≤ b → W X Q (.ops os xs :: k) ρ (Z' b)) : W X Q (.ops os (x :: xs) :: k) ρ Z :=
  W_step fun fr σ hf hz => by
    obtain ⟨b, σ', hb, ho, hz'⟩ := hv (x.dst.getD 0) fr σ hf hz
    exact ⟨_, _, fr, σ', hf, hz', h b hb, fun i l o' σ2 hi hr => .op hi (by simp [wantedV, hg]) ho (by rw [hd]; exact hr)⟩
theorem DE_opNew {x : Oper} {xs : List Oper} {d : Nat} {v : Nat → V} {Z' : Nat → List (Nat × AObj)} (hs : Zr.Sublist Z) (hw : ∀ fr, FrOK X.n ρ fr → wantedV os x fr = true) (hc : cs.contains n = true) (hd : x.dst = some d) (hv : OpNew X ρ Z x.op v Z') (h : ∀ b, X.σ0.length ≤ b → DE X Q k os cs Zr (n + 1) xs (upd ρ d (v b)) (Z' b)) : DE X Q k os cs Zr n (x :: xs) ρ Z := fun fr σ hf hz => by
  obtain ⟨b, σ', hb, ho, hz'⟩ := hv (x.dst.getD 0) fr σ hf hz
  obtain ⟨fr1, σ1, hex, hr⟩ := h b hb _ σ' (frOK_put hf d (v b)) hz'
  exact ⟨fr1, σ1, .chn (v := v b) (hz.less hs) hc (fun fr2 ha i l o σ3 hi hrun => .op hi (agree_want ha (hw fr hf)) (by rw [opV_agree (agree_frOK hf ha)]; exact ho) hrun) (by rw [hd]; exact hex), hr⟩
theorem DE_opNew0 {x : Oper} {xs : List Oper} {v : Nat → V} {Z' : Nat → List (Nat × AObj)} (hs : Zr.Sublist Z) (hw : ∀ fr, FrOK X.n ρ fr → wantedV os x fr = true) (hc : cs.contains n = true) (hd : x.dst = none) (hv : OpNew X ρ Z x.op v Z') (h : ∀ b, X.σ0.length ≤ b → DE X Q k os cs Zr (n + 1) xs ρ (Z' b)) : DE X Q k os cs Zr n (x :: xs) ρ Z := fun fr σ hf hz => by
  obtain ⟨b, σ', hb, ho, hz'⟩ := hv (x.dst.getD 0) fr σ hf hz
  obtain ⟨fr1, σ1, hex, hr⟩ := h b hb fr σ' hf hz'
  exact ⟨fr1, σ1, .chn (v := v b) (hz.less hs) hc (fun fr2 ha i l o σ3 hi hrun => .op hi (agree_want ha (hw fr hf)) (by rw [opV_agree (agree_frOK hf ha)]; exact ho) (by rw [hd] at hrun ⊢; exact hrun)) (by rw [hd]; exact hex), hr⟩
/-- A pure operation that is before or behind all that turns the store. -/
theorem DE_locW {x : Oper} {xs : List Oper} {d : Nat} {v : V} (hs : Zr.Sublist Z) (hfix : fixedAt os cs n = true) (hw : ∀ fr, FrOK X.n ρ fr → wantedV os x fr = true) (hd : x.dst = some d) (hv : PureOp X ρ Z x.op v) (h : DE X Q k os cs Zr (n + 1) xs (upd ρ d v) Z) : DE X Q k os cs Zr n (x :: xs) ρ Z := fun fr σ hf hz => by
  obtain ⟨fr1, σ1, hex, hr⟩ := h _ σ (frOK_put hf d v) hz
  refine ⟨fr1, σ1, .loc (v := v) (hz.less hs) hfix (fun fr2 ha i l o σ3 hi hrun => ?_) (by rw [hd]; exact hex), hr⟩
  exact .op hi (agree_want ha (hw fr hf)) (by rw [opV_agree (agree_frOK hf ha)]; exact hv _ fr σ hf hz) hrun
end
end Go.Ev

set_option linter.unusedSimpArgs false
set_option linter.unusedVariables false
namespace Go.Ev

/-- A slice with these elements, of which nothing is written. -/
def SlOf (v : V) (xs : List V) : Prop := (∃ tk, v = .sl tk xs) ∨ (xs = [] ∧ ∃ t, v = .nilsl t)
/-- A slice that grows in a row of the store: from nil, or from an empty literal. -/
def grSl (nb : Bool) (t : Nat) : List V → V
  | [] => bif nb then .nilsl (some t) else .sl (.res t) []
  | x :: xs => .sl (.tok t) (x :: xs)
/-- The same, once only read. -/
def rdSl (nb : Bool) : List V → V
  | [] => bif nb then .nilsl none else .sl .full []
  | x :: xs => .sl .sealed (x :: xs)
/-- What a slice is after something was put behind a full one. -/
def tkE (b : Nat) : List V → Tk
  | [] => .full
  | _ :: _ => .tok b

theorem SlOf.sl {tk : Tk} {xs : List V} : SlOf (.sl tk xs) xs := .inl ⟨tk, rfl⟩
theorem SlOf.nil {t : Option Nat} : SlOf (.nilsl t) [] := .inr ⟨rfl, t, rfl⟩
theorem SlOf.gr {nb : Bool} {t : Nat} {xs : List V} : SlOf (grSl nb t xs) xs := by
  cases xs with
  | nil => cases nb with
    | true => exact .inr ⟨rfl, _, rfl⟩
    | false => exact .inl ⟨_, rfl⟩
  | cons x xs => exact .inl ⟨_, rfl⟩
theorem SlOf.rd {nb : Bool} {xs : List V} : SlOf (rdSl nb xs) xs := by
  cases xs with
  | nil => cases nb with
    | true => exact .inr ⟨rfl, _, rfl⟩
    | false => exact .inl ⟨_, rfl⟩
  | cons x xs => exact .inl ⟨_, rfl⟩
theorem SlOf.view {v : V} {xs : List V} (h : SlOf v xs) {P : Program} {σ : St} : viewS P σ v = some xs := by
  rcases h with ⟨tk, rfl⟩ | ⟨rfl, t, rfl⟩ <;> rfl
theorem SlOf.len {v : V} {xs : List V} (h : SlOf v xs) : lenS v = some xs.length := by
  rcases h with ⟨tk, rfl⟩ | ⟨rfl, t, rfl⟩ <;> rfl
theorem SlOf.cells {v : V} {xs : List V} (h : SlOf v xs) : vcells v = [v] ∧ cellOK v = true := by
  rcases h with ⟨tk, rfl⟩ | ⟨rfl, t, rfl⟩ <;> exact ⟨rfl, rfl⟩

@[simp] theorem vcells_gr {nb : Bool} {t : Nat} {xs : List V} : vcells (grSl nb t xs) = [grSl nb t xs] := SlOf.gr.cells.1
@[simp] theorem vcells_rd {nb : Bool} {xs : List V} : vcells (rdSl nb xs) = [rdSl nb xs] := SlOf.rd.cells.1
@[simp] theorem cellOK_gr {nb : Bool} {t : Nat} {xs : List V} : cellOK (grSl nb t xs) = true := SlOf.gr.cells.2
@[simp] theorem cellOK_rd {nb : Bool} {xs : List V} : cellOK (rdSl nb xs) = true := SlOf.rd.cells.2
theorem grSl_nilT {t : Nat} : grSl true t [] = .nilsl (some t) := rfl
theorem grSl_nilF {t : Nat} : grSl false t [] = .sl (.res t) [] := rfl
theorem rdSl_nilT : rdSl true [] = .nilsl none := rfl
theorem rdSl_nilF : rdSl false [] = .sl .full [] := rfl

/-! ### Freezing -/
theorem freeze_sl {P : Program} {n : Nat} {σ : St} {d : Nat} {tk : Tk} {xs ys : List V} (h : freeze.frL P n σ d xs = some ys) : freeze P n σ d (.sl tk xs) = some (.sl (freezeTk n tk) ys) := by
  cases d <;> simp [freeze, h]
theorem freeze_gr {P : Program} {n : Nat} {σ : St} {d : Nat} {nb : Bool} {t : Nat} {xs ys : List V} (ht : n ≤ t) (h : freeze.frL P n σ d xs = some ys) : freeze P n σ d (grSl nb t xs) = some (rdSl nb ys) := by
  cases xs with
  | nil =>
    simp [freeze.frL] at h
    subst h
    cases nb with
    | true =>
      have : ¬ t < n := Nat.not_lt.2 ht
      cases d <;> simp [grSl, rdSl, freeze, Option.filter, this]
    | false =>
      have : ¬ t < n := Nat.not_lt.2 ht
      simp only [grSl, cond_false, rdSl]
      rw [freeze_sl (ys := []) (by simp [freeze.frL])]
      simp [freezeTk, this]
  | cons x xs =>
    have : ¬ t < n := Nat.not_lt.2 ht
    obtain ⟨y, ys', rfl⟩ : ∃ y ys', ys = y :: ys' := by
      cases ys with
      | nil =>
        unfold freeze.frL at h
        split at h <;> simp at h
      | cons y ys => exact ⟨y, ys, rfl⟩
    rw [show grSl nb t (x :: xs) = .sl (.tok t) (x :: xs) from rfl, freeze_sl h]
    simp [freezeTk, this, rdSl]
theorem frL_map {P : Program} {n : Nat} {σ : St} {d : Nat} {xs ys : List V} (hl : xs.length = ys.length) (h : ∀ (i : Nat) x y, xs[i]? = some x → ys[i]? = some y → freeze P n σ d x = some y) : freeze.frL P n σ d xs = some ys := by
  induction xs generalizing ys with
  | nil => cases ys with
    | nil => simp [freeze.frL]
    | cons y ys => simp at hl
  | cons x xs ih => cases ys with
    | nil => simp at hl
    | cons y ys =>
      unfold freeze.frL
      rw [h 0 x y rfl rfl, ih (by simpa using hl) fun i a b ha hb => h (i + 1) a b (by simpa using ha) (by simpa using hb)]
/-- Values that stay as they are. -/
def Still (P : Program) (v : V) : Prop := ∀ n σ d, freeze P n σ d v = some v
theorem frL_still {P : Program} {n : Nat} {σ : St} {d : Nat} {xs : List V} (h : ∀ x ∈ xs, Still P x) : freeze.frL P n σ d xs = some xs :=
  frL_map rfl fun i x y hx hy => by rw [hx] at hy; cases hy; exact h x (List.mem_of_getElem? hx) n σ d
theorem Still.int {P : Program} (k : IntKind) (n : Int) : Still P (.int k n) := fun _ _ d => by cases d <;> simp [freeze]
theorem Still.bool {P : Program} (b : Bool) : Still P (.bool b) := fun _ _ d => by cases d <;> simp [freeze]
theorem Still.str {P : Program} (s : ByteArray) : Still P (.str s) := fun _ _ d => by cases d <;> simp [freeze]
theorem Still.agg {P : Program} {cs : List V} (h : ∀ c ∈ cs, Still P c) : Still P (.agg cs) := fun n σ d => by
  have := frL_still (n := n) (σ := σ) (d := d) h
  cases d <;> simp [freeze, this]
theorem Still.sl {P : Program} {tk : Tk} {xs : List V} (ht : ∀ n, freezeTk n tk = tk) (h : ∀ c ∈ xs, Still P c) : Still P (.sl tk xs) := fun n σ d => by
  rw [freeze_sl (frL_still h), ht]
theorem Still.rd {P : Program} {nb : Bool} {xs : List V} (h : ∀ c ∈ xs, Still P c) : Still P (rdSl nb xs) := by
  cases xs with
  | nil =>
    cases nb with
    | true => exact fun n σ d => by cases d <;> simp [rdSl, freeze, Option.filter]
    | false => exact Still.sl (fun _ => rfl) h
  | cons x xs => exact Still.sl (fun _ => rfl) h

section
variable {X : Cx} {Q : Ex → Fr → St → Prop} {k : List Itm} {ρ : Env} {Z Zr : List (Nat × AObj)} {os : Array Oper} {n : Nat} {cs : List Nat}

/-- What a pure operation yields at a place. -/
def PureAt (X : Cx) (ρ : Env) (Z : List (Nat × AObj)) (d : Nat) (o : Op) (v : V) : Prop := ∀ fr σ, FrOK X.n ρ fr → Hp X Z σ → opV X.C.P (X.C.own X.f X.m d) fr σ o = some (v, σ)

theorem W_pureD {x : Oper} {xs : List Oper} {d : Nat} {v : V} (hg : x.guard = none) (hd : x.dst = some d) (hv : PureAt X ρ Z d x.op v) (h : W X Q (.ops os xs :: k) (upd ρ d v) Z) :
    W X Q (.ops os (x :: xs) :: k) ρ Z :=
  W_one (fun fr σ hf hz => ⟨put fr (some d) v, σ, frOK_put hf d v, hz, fun i l o σ' hi hr => .op hi (by simp [wantedV, hg]) (by rw [hd, Option.getD_some]; exact hv fr σ hf hz) (by rw [hd]; exact hr)⟩) h
theorem W_yesD {x : Oper} {xs : List Oper} {j d : Nat} {want b : Bool} {dst : Nat} {v : V} (hg : x.guard = some (j, want)) (hj : (os[j]?).bind (·.dst) = some d) (hd : Nat.blt d X.n = true) (hb : ρ d = .bool b) (hbw : b = want) (hdst : x.dst = some dst)
    (hv : PureAt X ρ Z dst x.op v) (h : W X Q (.ops os xs :: k) (upd ρ dst v) Z) : W X Q (.ops os (x :: xs) :: k) ρ Z :=
  W_one (fun fr σ hf hz => ⟨put fr (some dst) v, σ, frOK_put hf dst v, hz, fun i l o σ' hi hr => .op hi (by rw [wanted_guard hf hg hj hd hb, hbw]; simp) (by rw [hdst, Option.getD_some]; exact hv fr σ hf hz) (by rw [hdst]; exact hr)⟩) h
theorem DE_pureWD {x : Oper} {xs : List Oper} {d : Nat} {v : V} (hs : Zr.Sublist Z) (hw : ∀ fr, FrOK X.n ρ fr → wantedV os x fr = true) (hd : x.dst = some d) (hv : PureAt X ρ Zr d x.op v) (h : DE X Q k os cs Zr (n + 1) xs (upd ρ d v) Z) : DE X Q k os cs Zr n (x :: xs) ρ Z := fun fr σ hf hz => by
  obtain ⟨fr1, σ1, hex, hr⟩ := h _ σ (frOK_put hf d v) hz
  refine ⟨fr1, σ1, .flo (v := v) (hz.less hs) (fun fr2 σ2 ha hz2 i l o σ3 hi hrun => ?_) (by rw [hd]; exact hex), hr⟩
  exact .op hi (agree_want ha (hw fr hf)) (by rw [opV_agree (agree_frOK hf ha), hd, Option.getD_some]; exact hv fr σ2 hf hz2) hrun

/-! ### Guards in drawn regions -/
theorem want_none {n : Nat} {x : Oper} (hg : x.guard = none) : ∀ fr, FrOK n ρ fr → wantedV os x fr = true := fun fr _ => by simp [wantedV, hg]
theorem want_yes {n : Nat} {x : Oper} {j d : Nat} {want b : Bool} (hg : x.guard = some (j, want)) (hj : (os[j]?).bind (·.dst) = some d) (hd : Nat.blt d n = true) (hb : ρ d = .bool b) (hbw : b = want) : ∀ fr, FrOK n ρ fr → wantedV os x fr = true := fun fr hf => by
  rw [wanted_guard hf hg hj hd hb, hbw]; simp
theorem want_no {n : Nat} {x : Oper} {j d : Nat} {want b : Bool} (hg : x.guard = some (j, want)) (hj : (os[j]?).bind (·.dst) = some d) (hd : Nat.blt d n = true) (hb : ρ d = .bool b) (hbw : b = !want) : ∀ fr, FrOK n ρ fr → wantedV os x fr = false := fun fr hf => by
  rw [wanted_guard hf hg hj hd hb, hbw]; cases want <;> rfl
theorem DE_split {xs : List Oper} {t : Nat} {b : Bool} (h : ρ t = .bool b) (ht : b = true → DE X Q k os cs Zr n xs (upd ρ t (.bool true)) Z) (hf : b = false → DE X Q k os cs Zr n xs (upd ρ t (.bool false)) Z) : DE X Q k os cs Zr n xs ρ Z := by
  have hs : ∀ c, ρ t = .bool c → upd ρ t (.bool c) = ρ := fun c hc => (upds_self (ρ := ρ) (l := [(t, .bool c)]) ⟨hc, trivial⟩)
  cases b with
  | true => have := ht rfl; rwa [hs true h] at this
  | false => have := hf rfl; rwa [hs false h] at this

/-! ### Slices that are read -/
theorem po_lenS {t : TypeId} {ts : Array TypeId} {x : Operand} {e : TypeId} {v : V} {xs : List V} (hts : ts.toList = [t]) (hu : X.C.P.underlying t = some (.slice e)) (hx : evo X.n ρ x = some v) (hv : SlOf v xs) :
    PureOp X ρ Z (.call { callee := .builtin .len, args := #[x], argTypes := ts }) (.int .i64 xs.length) := by
  rcases hv with ⟨tk, rfl⟩ | ⟨rfl, t', rfl⟩
  · exact po_len hts hu hx
  · exact po_len_nil hts hu hx
theorem po_indexAddrS {t : TypeId} {x y : Operand} {e : TypeId} {v : V} {xs : List V} {kk : IntKind} {i : Int} {w : V} {n : Nat} {cs : List V} (hu : X.C.P.underlying t = some (.slice e)) (ht : tsize X.C.P e = n + 1) (hx : evo X.n ρ x = some v) (hv : SlOf v xs) (hy : evo X.n ρ y = some (.int kk i))
    (h0 : 0 ≤ i) (hw : xs[i.toNat]? = some w) (hc : vcells w = cs) (hl : cs.length = n + 1) : PureOp X ρ Z (.indexAddr t x y) (.rptr cs) := by
  rcases hv with ⟨tk, rfl⟩ | ⟨rfl, t', rfl⟩
  · exact po_indexAddr hu ht hx hy h0 hw hc hl
  · simp at hw
/-- A literal of a slice. -/
theorem po_sliceD {t : TypeId} {len : Nat} {ps : Array (Nat × Operand)} {e : TypeId} {z : V} {n d : Nat} {vs : List (Nat × V)} {ys : List V}
    (hown : X.C.own X.f X.m d = false) (hu : X.C.P.underlying t = some (.slice e)) (hz : zeroOf X.C.P e = some z) (ht : tsize X.C.P e = n + 1) (hzl : (vcells z).length = n + 1) (hp : evp X.n ρ ps.toList = some vs) (hl : Nat.ble (len * (n + 1)) 16777216 = true)
    (ha : (vs.all fun p => (vcells p.2).length == n + 1) = true) (hy : listSet (List.replicate len z) vs = some ys) : PureAt X ρ Z d (.buildSlice t len ps) (.sl .full ys) := fun fr σ hf hz' => by
  have h3 := Nat.le_of_ble_eq_true hl
  simp only [hown, opV, evp_sound hf hp, Option.bind_some, buildSliceV, hu, hz, ht, hzl]
  rw [if_pos ⟨trivial, by omega, by simpa using h3, ha⟩]
  simp [hy]

/-- A row is kept for an empty slice. -/
theorem W_ghost {xs : List Oper} {d : Nat} (e : TypeId) (nb : Bool) (hd : Nat.blt d X.n = true) (hv : ρ d = bif nb then .nilsl none else .sl .full []) (h : ∀ b, X.σ0.length ≤ b → W X Q (.ops os xs :: k) (upd ρ d (grSl nb b [])) ((b, .tok e 0) :: Z)) : W X Q (.ops os xs :: k) ρ Z := fun fr σ hf hz => by
  have hlt : d < X.n := Nat.le_of_ble_eq_true hd
  have hg : get fr d = bif nb then .nilsl none else .sl .full [] := by rw [hf.2 d hlt]; exact hv
  obtain ⟨e', fr', σ', hr, hq⟩ := h σ.length hz.len _ _ (frOK_put hf d (grSl nb σ.length [])) (hz.push (.tok e 0) (fun r h => by cases h))
  refine ⟨e', fr', σ', ?_, hq⟩
  have hv' : resv σ.length (get fr d) = some (grSl nb σ.length []) := by rw [hg]; cases nb <;> rfl
  cases hr with
  | ops h1 h2 => exact .ops (fun l hl => .ghost (e := e) hv' (h1 l hl)) h2

/-- A row is kept for a nil slice within a value. -/
theorem W_ghostA {xs : List Oper} {d : Nat} {cs : List V} (e : TypeId) (j : Nat) (hd : Nat.blt d X.n = true) (hv : ρ d = .agg cs) (hj : cs[j]? = some (.nilsl none)) {cs' : Nat → List V} (hcs : ∀ b, cs.set j (grSl true b []) = cs' b) (h : ∀ b, X.σ0.length ≤ b → W X Q (.ops os xs :: k) (upd ρ d (.agg (cs' b))) ((b, .tok e 0) :: Z)) : W X Q (.ops os xs :: k) ρ Z := fun fr σ hf hz => by
  have hlt : d < X.n := Nat.le_of_ble_eq_true hd
  have hg : get fr d = .agg cs := by rw [hf.2 d hlt]; exact hv
  obtain ⟨e', fr', σ', hr, hq⟩ := (by have := h σ.length hz.len; rw [← hcs] at this; exact this : W X Q (.ops os xs :: k) (upd ρ d (.agg (cs.set j (grSl true σ.length [])))) ((σ.length, .tok e 0) :: Z)) _ _ (frOK_put hf d (.agg (cs.set j (grSl true σ.length [])))) (hz.push (.tok e 0) (fun r h => by cases h))
  refine ⟨e', fr', σ', ?_, hq⟩
  cases hr with
  | ops h1 h2 => exact .ops (fun l hl => .ghostA (e := e) hg hj (v := grSl true σ.length []) rfl (h1 l hl)) h2

/-! ### What turns the store -/
def OpEff (X : Cx) (ρ : Env) (Z : List (Nat × AObj)) (d : Nat) (o : Op) (v : Nat → V) (Z' : Nat → List (Nat × AObj)) : Prop :=
  ∀ fr σ, FrOK X.n ρ fr → Hp X Z σ → ∃ b σ', X.σ0.length ≤ b ∧ opV X.C.P (X.C.own X.f X.m d) fr σ o = some (v b, σ') ∧ Hp X (Z' b) σ'

theorem W_eff {x : Oper} {xs : List Oper} {d : Nat} {v : Nat → V} {Z' : Nat → List (Nat × AObj)} (hg : x.guard = none) (hd : x.dst = some d) (hv : OpEff X ρ Z d x.op v Z') (h : ∀ b, X.σ0.length ≤ b → W X Q (.ops os xs :: k) (upd ρ d (v b)) (Z' b)) : W X Q (.ops os (x :: xs) :: k) ρ Z :=
  W_step fun fr σ hf hz => by
    obtain ⟨b, σ', hb, ho, hz'⟩ := hv fr σ hf hz
    exact ⟨_, _, put fr (some d) (v b), σ', frOK_put hf d _, hz', h b hb, fun i l o' σ2 hi hr => .op hi (by simp [wantedV, hg]) (by rw [hd, Option.getD_some]; exact ho) (by rw [hd]; exact hr)⟩
theorem DE_eff {x : Oper} {xs : List Oper} {d : Nat} {v : Nat → V} {Z' : Nat → List (Nat × AObj)} (hs : Zr.Sublist Z) (hw : ∀ fr, FrOK X.n ρ fr → wantedV os x fr = true) (hc : cs.contains n = true) (hd : x.dst = some d) (hv : OpEff X ρ Z d x.op v Z') (h : ∀ b, X.σ0.length ≤ b → DE X Q k os cs Zr (n + 1) xs (upd ρ d (v b)) (Z' b)) : DE X Q k os cs Zr n (x :: xs) ρ Z := fun fr σ hf hz => by
  obtain ⟨b, σ', hb, ho, hz'⟩ := hv fr σ hf hz
  obtain ⟨fr1, σ1, hex, hr⟩ := h b hb _ σ' (frOK_put hf d (v b)) hz'
  exact ⟨fr1, σ1, .chn (v := v b) (hz.less hs) hc (fun fr2 ha i l o σ3 hi hrun => .op hi (agree_want ha (hw fr hf)) (by rw [opV_agree (agree_frOK hf ha), hd, Option.getD_some]; exact ho) hrun) (by rw [hd]; exact hex), hr⟩
theorem DE_eff0 {x : Oper} {xs : List Oper} {v : Nat → V} {Z' : Nat → List (Nat × AObj)} (hs : Zr.Sublist Z) (hw : ∀ fr, FrOK X.n ρ fr → wantedV os x fr = true) (hc : cs.contains n = true) (hd : x.dst = none) (hv : OpEff X ρ Z 0 x.op v Z') (h : ∀ b, X.σ0.length ≤ b → DE X Q k os cs Zr (n + 1) xs ρ (Z' b)) : DE X Q k os cs Zr n (x :: xs) ρ Z := fun fr σ hf hz => by
  obtain ⟨b, σ', hb, ho, hz'⟩ := hv fr σ hf hz
  obtain ⟨fr1, σ1, hex, hr⟩ := h b hb fr σ' hf hz'
  exact ⟨fr1, σ1, .chn (v := v b) (hz.less hs) hc (fun fr2 ha i l o σ3 hi hrun => .op hi (agree_want ha (hw fr hf)) (by rw [opV_agree (agree_frOK hf ha), hd, Option.getD_none]; exact ho) (by rw [hd] at hrun ⊢; exact hrun)) (by rw [hd]; exact hex), hr⟩

theorem eff_store {t : TypeId} {a y : Operand} {b o i : Nat} {v : V} {vs : List V} {e : TypeId} {cs cs' : List V} {n d : Nat}
    (ha : evo X.n ρ a = some (.ptr b o)) (hy : evo X.n ρ y = some v) (hi : Z[i]? = some (b, .cells e cs)) (hvs : vcells v = vs) (ht : tsize X.C.P t = n + 1) (hl : vs.length = n + 1) (hn : Nat.ble (o + (n + 1)) cs.length = true) (hok : vs.all cellOK = true) (hc : wr cs o vs = cs')
    {Z' : List (Nat × AObj)} (hZ : zset Z i (.cells e cs') = Z') : OpEff X ρ Z d (.store t a y) (fun _ => V.undef) (fun _ => Z') := fun fr σ hf hz => by
  have hle := Nat.le_of_ble_eq_true hn
  have hw : wr cs o vs = cs.take o ++ vs ++ cs.drop (o + vs.length) := wr_eq cs o vs (by omega)
  refine ⟨X.σ0.length, σ.set b (.cells e cs'), Nat.le_refl _, ?_, hZ ▸ hz.set hi (fun r h => by cases h) (fun r h => by cases h)⟩
  simp only [opV, evo_sound hf ha, evo_sound hf hy, storeV, hvs, hl, ht, wrCells, hz.get hi]
  rw [if_pos ⟨trivial, by omega⟩, if_pos ⟨hle, hok⟩, ← hc, hw, hl]
  rfl

/-- An empty literal with a row kept for it. -/
theorem eff_res {t : TypeId} {e : TypeId} {z : V} {n d : Nat} (hown : X.C.own X.f X.m d = true) (hu : X.C.P.underlying t = some (.slice e)) (hz : zeroOf X.C.P e = some z) (ht : tsize X.C.P e = n + 1) (hzl : (vcells z).length = n + 1) :
    OpEff X ρ Z d (.buildSlice t 0 #[]) (fun b => grSl false b []) (fun b => (b, .tok e 0) :: Z) := fun fr σ hf hz' => by
  refine ⟨σ.length, σ ++ [.tok e 0], hz'.len, ?_, hz'.push (.tok e 0) (fun r h => by cases h)⟩
  simp [hown, opV, evalP, buildSliceV, hu, hz, ht, hzl, listSet, grSl]

theorem zset_self : ∀ {Z : List (Nat × AObj)} {i b : Nat} {o : AObj}, Z[i]? = some (b, o) → zset Z i o = Z
  | [], _, _, _, h => by simp at h
  | (b', o') :: Z, 0, b, o, h => by simp at h; obtain ⟨rfl, rfl⟩ := h; rfl
  | p :: Z, i + 1, b, o, h => by simp only [zset]; rw [zset_self (by simpa using h)]

/-- Something is put behind a slice that grows. -/
theorem eff_append {s y : Operand} {ts : Array TypeId} {t i e b n T T' d mm : Nat} {D : TypeDesc} {nb : Bool} {xs ys : List V} {vy : V}
    (hts : ts.toList = [T, T']) (hown : X.C.own X.f X.m d = false) (hu : X.C.P.underlying T = some (.slice e)) (hu' : X.C.P.underlying T' = some D) (hD : ∀ k, D ≠ .int k) (ht : tsize X.C.P e = n + 1) (hb : tbytes X.C.P e = b) (hbs : Nat.ble b 1048576 = true) (hz : zeroOK X.C.P e = true)
    (hs : evo X.n ρ s = some (grSl nb t xs)) (hy : evo X.n ρ y = some vy) (hv : SlOf vy ys) (hi : Z[i]? = some (t, .tok e mm)) (hmm : mm = xs.length)
    (hys : ∀ y ∈ ys, (vcells y).length = n + 1 ∧ (vcells y).all cellOK = true) (hxs : ∀ x ∈ xs, (vcells x).length = n + 1)
    (hfit : (xs.length + ys.length) * b ≤ 70368744177664 ∧ xs.length + ys.length ≤ 70368744177664) {Z' : List (Nat × AObj)} (hZ : zset Z i (.tok e (xs ++ ys).length) = Z') :
    OpEff X ρ Z d (.call { callee := .builtin .append, args := #[s, y], argTypes := ts }) (fun _ => grSl nb t (xs ++ ys)) (fun _ => Z') := fun fr σ hf hh => by
  subst hmm
  have hget := hh.get hi
  have hall : (ys.all (fun y => (vcells y).length == tsize X.C.P e && (vcells y).all cellOK) && (decide (0 < tsize X.C.P e) && zeroOK X.C.P e)) = true := by
    rw [ht, hz]
    simp only [Bool.and_true, Bool.and_eq_true, List.all_eq_true, decide_eq_true_eq, beq_iff_eq]
    exact ⟨fun y hy => ⟨(hys y hy).1, by simpa using (hys y hy).2⟩, by omega⟩
  have hfits : fits X.C.P e (xs.length + ys.length) = true := by
    have := Nat.le_of_ble_eq_true hbs
    simp only [fits, hb, Bool.and_eq_true, decide_eq_true_eq]
    exact ⟨⟨by simpa using hfit.1, by simpa using this⟩, by simpa using hfit.2⟩
  by_cases hne : ys = []
  · subst hne
    have hZ' : Z' = Z := by rw [← hZ, List.append_nil]; exact zset_self hi
    subst hZ'
    refine ⟨X.σ0.length, σ, Nat.le_refl _, ?_, hh⟩
    simp only [opV, evalL, evo_sound hf hs, evo_sound hf hy, Option.bind_some, builtinV, hts, hu, hu', hv.view, hown, List.append_nil]
    have hmain : appendV X.C.P false e σ (grSl nb t xs) [] = some (grSl nb t xs, σ) := by
      unfold appendV
      rw [if_pos hall]
      cases xs with
      | nil => cases nb <;> rfl
      | cons x0 xs => rfl
    cases D with
    | int k => exact absurd rfl (hD k)
    | _ => exact hmain
  · refine ⟨X.σ0.length, σ.set t (.tok e (xs ++ ys).length), Nat.le_refl _, ?_, hZ ▸ hh.set hi (fun r h => by cases h) (fun r h => by cases h)⟩
    simp only [opV, evalL, evo_sound hf hs, evo_sound hf hy, Option.bind_some, builtinV, hts, hu, hu', hv.view, hown]
    have hmain : appendV X.C.P false e σ (grSl nb t xs) ys = some (grSl nb t (xs ++ ys), σ.set t (.tok e (xs ++ ys).length)) := by
      unfold appendV
      rw [if_pos hall]
      cases xs with
      | nil =>
        have hf1 : fits X.C.P e ys.length = true := by simpa using hfits
        cases ys with
        | nil => exact absurd rfl hne
        | cons y0 ys =>
          simp only [List.length_nil] at hget
          cases nb with
          | true =>
            simp [grSl, hf1, hget]
            exact hf1
          | false =>
            simp [grSl, hf1, hget]
            exact hf1
      | cons x0 xs =>
        have hx1 : ((x0 :: xs).all (fun x => (vcells x).length == tsize X.C.P e)) = true := by
          rw [ht, List.all_eq_true]; exact fun x hx => by simpa using hxs x hx
        simp only [grSl, List.cons_append]
        rw [if_neg hne, hx1, hfits]
        simp only [Bool.not_true, Bool.false_eq_true, if_false, hget]
        rw [if_pos ⟨trivial, trivial, by simp⟩]
        rw [show (x0 :: xs).length + ys.length = (x0 :: xs ++ ys).length by rw [List.length_append]]
        rfl
    cases D with
    | int k => exact absurd rfl (hD k)
    | _ => exact hmain

/-- Something is put behind a full slice; the row is not asked for any more. -/
theorem eff_appendF {s y : Operand} {ts : Array TypeId} {e b n T T' d : Nat} {D : TypeDesc} {xs ys : List V} {vy : V}
    (hts : ts.toList = [T, T']) (hown : X.C.own X.f X.m d = false) (hu : X.C.P.underlying T = some (.slice e)) (hu' : X.C.P.underlying T' = some D) (hD : ∀ k, D ≠ .int k) (ht : tsize X.C.P e = n + 1) (hb : tbytes X.C.P e = b) (hbs : Nat.ble b 1048576 = true) (hz : zeroOK X.C.P e = true)
    (hs : evo X.n ρ s = some (.sl .full xs)) (hy : evo X.n ρ y = some vy) (hv : SlOf vy ys)
    (hys : ∀ y ∈ ys, (vcells y).length = n + 1 ∧ (vcells y).all cellOK = true) (hxs : ∀ x ∈ xs, (vcells x).length = n + 1)
    (hfit : (xs.length + ys.length) * b ≤ 70368744177664 ∧ xs.length + ys.length ≤ 70368744177664) :
    OpEff X ρ Z d (.call { callee := .builtin .append, args := #[s, y], argTypes := ts }) (fun b => .sl (tkE b ys) (xs ++ ys)) (fun _ => Z) := fun fr σ hf hh => by
  have hall : (ys.all (fun y => (vcells y).length == tsize X.C.P e && (vcells y).all cellOK) && (decide (0 < tsize X.C.P e) && zeroOK X.C.P e)) = true := by
    rw [ht, hz]
    simp only [Bool.and_true, Bool.and_eq_true, List.all_eq_true, decide_eq_true_eq, beq_iff_eq]
    exact ⟨fun y hy => ⟨(hys y hy).1, by simpa using (hys y hy).2⟩, by omega⟩
  have hfits : fits X.C.P e (xs.length + ys.length) = true := by
    have := Nat.le_of_ble_eq_true hbs
    simp only [fits, hb, Bool.and_eq_true, decide_eq_true_eq]
    exact ⟨⟨by simpa using hfit.1, by simpa using this⟩, by simpa using hfit.2⟩
  have hx1 : (xs.all (fun x => (vcells x).length == tsize X.C.P e)) = true := by
    rw [ht, List.all_eq_true]; exact fun x hx => by simpa using hxs x hx
  have fin : ∀ {v : V} {σ' : St}, appendV X.C.P false e σ (.sl .full xs) ys = some (v, σ') → opV X.C.P (X.C.own X.f X.m d) fr σ (.call { callee := .builtin .append, args := #[s, y], argTypes := ts }) = some (v, σ') := fun {v σ'} hm => by
    simp only [opV, evalL, evo_sound hf hs, evo_sound hf hy, Option.bind_some, builtinV, hts, hu, hu', hv.view, hown]
    cases D with
    | int k => exact absurd rfl (hD k)
    | _ => exact hm
  cases ys with
  | nil =>
    refine ⟨X.σ0.length, σ, Nat.le_refl _, fin ?_, hh⟩
    unfold appendV
    rw [if_pos hall]
    simp [tkE]
  | cons y0 ys =>
    refine ⟨σ.length, σ ++ [.tok e (xs.length + (y0 :: ys).length)], hh.len, fin ?_, (hh.push (.tok e (xs.length + (y0 :: ys).length)) (fun r h => by cases h)).less (List.sublist_cons_self _ _)⟩
    unfold appendV
    rw [if_pos hall]
    simp only []
    rw [if_neg (by simp), hx1, hfits]
    rfl
end
attribute [irreducible] grSl rdSl
end Go.Ev

/- Part 3 of the proof: an evaluator of programs and its soundness. -/
import Derived.Test.YtcnbffganikmfaaEv1
set_option linter.unusedSimpArgs false
set_option linter.unusedVariables false
namespace Go.Ev
section
variable {X : Cx} {Q : Ex → Fr → St → Prop} {k : List Itm} {ρ : Env} {Z Zr : List (Nat × AObj)} {os : Array Oper} {n : Nat} {cs : List Nat}

theorem AE_nil : AllEq ρ [] := trivial
theorem AE (t : Nat) {v : V} {l : List (Nat × V)} (h : ρ t = v) (hl : AllEq ρ l) : AllEq ρ ((t, v) :: l) := ⟨h, hl⟩
theorem AE_append {a b : List (Nat × V)} (ha : AllEq ρ a) (hb : AllEq ρ b) : AllEq ρ (a ++ b) := by
  induction a with
  | nil => exact hb
  | cons p a ih => exact ⟨ha.1, ih ha.2⟩

theorem W_eqZ {Z' : List (Nat × AObj)} (hZ : Z = Z') (h : W X Q k ρ Z') : W X Q k ρ Z := hZ ▸ h
theorem W_eqE {ρ' : Env} (hρ : ρ = ρ') (h : W X Q k ρ' Z) : W X Q k ρ Z := hρ ▸ h

/-- A loop, with what it keeps up: the temporaries that turn, those that stay, the objects that turn. -/
theorem W_loopI {S : Type} {c : Code} (vs : S → List (Nat × V)) (is : List Nat) (ms : S → List AObj) (I : S → Prop) (m : S → Nat) (s0 : S) {cs : List (Nat × V)} (hc : AllEq ρ cs) (hv : AllEq ρ (vs s0)) (h0 : zsets Z is (ms s0) = Z) (hI : I s0)
    (hb : ∀ s j, I s → (∀ s' ρ' Z', I s' → m s' < m s → AllEq ρ' (vs s') → AllEq ρ' cs → Z' = zsets Z is (ms s') → W X Q (.code (.loop c) :: k) ρ' Z') → W X Q (.code c :: .code (.loop c) :: k) (upds j (vs s ++ cs)) (zsets Z is (ms s))) : W X Q (.code (.loop c) :: k) ρ Z := by
  have key : ∀ (n : Nat) s ρ' Z', m s = n → I s → AllEq ρ' (vs s) → AllEq ρ' cs → Z' = zsets Z is (ms s) → W X Q (.code (.loop c) :: k) ρ' Z' := by
    intro n
    induction n using Nat.strongRecOn with | _ n ih => ?_
    intro s ρ' Z' hn hI hv hc hZ
    subst hn hZ
    refine W_loop ?_
    have := hb s ρ' hI fun s' ρ2 Z2 hI' hm hv' hc' hZ' => ih _ hm s' ρ2 Z2 rfl hI' hv' hc' hZ'
    rwa [upds_self (AE_append hv hc)] at this
  exact key _ s0 ρ Z rfl hI hv hc h0.symm

/-- A test of which it is known how it ends. -/
theorem W_known (t : Nat) (c : Bool) {v : V} (h : ρ t = v) (hv : v = .bool c) (hw : W X Q k (upd ρ t (.bool c)) Z) : W X Q k ρ Z := W_keep [(t, .bool c)] ⟨h.trans hv, trivial⟩ hw
theorem DE_known {xs : List Oper} (t : Nat) (c : Bool) {v : V} (h : ρ t = v) (hv : v = .bool c) (hw : DE X Q k os cs Zr n xs (upd ρ t (.bool c)) Z) : DE X Q k os cs Zr n xs ρ Z := by
  have hs : upd ρ t (.bool c) = ρ := upds_self (ρ := ρ) (l := [(t, .bool c)]) ⟨h.trans hv, trivial⟩
  rwa [hs] at hw
/-- A temporary, by another name of its value. -/
theorem W_turn (t : Nat) {v v' : V} (h : ρ t = v) (hv : v = v') (hw : W X Q k (upd ρ t v') Z) : W X Q k ρ Z := W_keep [(t, v')] ⟨h.trans hv, trivial⟩ hw

theorem DE_turn {xs : List Oper} (t : Nat) {v v' : V} (h : ρ t = v) (hv : v = v') (hw : DE X Q k os cs Zr n xs (upd ρ t v') Z) : DE X Q k os cs Zr n xs ρ Z := by
  have hs : upd ρ t v' = ρ := upds_self (ρ := ρ) (l := [(t, v')]) ⟨h.trans hv, trivial⟩
  rwa [hs] at hw
theorem still_map {α : Type} {P : Program} {f : α → V} {l : List α} (h : ∀ a, Still P (f a)) : ∀ x ∈ l.map f, Still P x := fun x hx => by
  obtain ⟨a, -, rfl⟩ := List.mem_map.1 hx
  exact h a

/-- The known objects but some. -/
def zdrop : List Nat → List (Nat × AObj) → Nat → List (Nat × AObj)
  | _, [], _ => []
  | is, p :: Z, i => bif is.any (Nat.beq i) then zdrop is Z (i + 1) else p :: zdrop is Z (i + 1)
theorem W_drawI {id : Nat} {xs : List Oper} {gl : List Nat} (is : List Nat) (hzr : zdrop is Z 0 = Zr) (hx : os.toList = xs) (hok : drawOK os cs gl = true) (h : DE X Q k os cs Zr 0 xs ρ Z) : W X Q (.code (.region id os true) :: k) ρ Z := W_draw Zr hx hok h
end
end Go.Ev
namespace Go.Ev
section
variable {X : Cx} {Q : Ex → Fr → St → Prop} {k : List Itm} {ρ : Env} {Z Zr : List (Nat × AObj)} {os : Array Oper}

/-- The same in an iterator: what others keep up turns too. -/
theorem W_loopY {S : Type} {c : Code} (A : S → St → Prop) (vs : S → List (Nat × V)) (is : List Nat) (ms : S → List AObj) (I : S → Prop) (m : S → Nat) (s0 : S) {cs : List (Nat × V)} (hc : AllEq ρ cs) (hv : AllEq ρ (vs s0)) (h0 : zsets Z is (ms s0) = Z) (hI : I s0)
    (hb : ∀ s j, I s → (∀ s' ρ' Z', I s' → m s' < m s → AllEq ρ' (vs s') → AllEq ρ' cs → Z' = zsets Z is (ms s') → W (X.withA (A s')) Q (.code (.loop c) :: k) ρ' Z') → W (X.withA (A s)) Q (.code c :: .code (.loop c) :: k) (upds j (vs s ++ cs)) (zsets Z is (ms s))) : W (X.withA (A s0)) Q (.code (.loop c) :: k) ρ Z := by
  have key : ∀ (n : Nat) s ρ' Z', m s = n → I s → AllEq ρ' (vs s) → AllEq ρ' cs → Z' = zsets Z is (ms s) → W (X.withA (A s)) Q (.code (.loop c) :: k) ρ' Z' := by
    intro n
    induction n using Nat.strongRecOn with | _ n ih => ?_
    intro s ρ' Z' hn hI hv hc hZ
    subst hn hZ
    refine W_loop ?_
    have := hb s ρ' hI fun s' ρ2 Z2 hI' hm hv' hc' hZ' => ih _ hm s' ρ2 Z2 rfl hI' hv' hc' hZ'
    rwa [upds_self (AE_append hv hc)] at this
  exact key _ s0 ρ Z rfl hI hv hc h0.symm

theorem endsB_of {S : Type} {X' : Cx} {Zf : S → List (Nat × AObj)} {R : Ex → S → Prop} (s : S) (hX : X' = X) (hZ : Z = Zf s) (hR : R .normal s) : W X (EndsB X' Zf R) [] ρ Z := W_nil fun fr σ hf hz => ⟨s, by rw [hX, ← hZ]; exact hz, hR⟩
theorem endsB_ret {S : Type} {X' : Cx} {Zf : S → List (Nat × AObj)} {R : Ex → S → Prop} (s : S) (hX : X' = X) (hZ : Z = Zf s) (hR : R .ret s) : W X (EndsB X' Zf R) (.code .ret :: k) ρ Z := W_ret fun fr σ hf hz => ⟨s, by rw [hX, ← hZ]; exact hz, hR⟩

theorem Hp.getA {σ : St} (h : Hp X Z σ) {i b : Nat} {o x : AObj} (hi : Z[i]? = some (b, o)) : (σ ++ [x])[b]? = some o := by
  have h1 := h.get hi
  rw [List.getElem?_append_left (List.getElem?_eq_some_iff.1 h1).1]; exact h1
end
end Go.Ev
namespace Go.Ev
section
variable {X : Cx} {Q : Ex → Fr → St → Prop} {k : List Itm} {ρ : Env} {Z Zr : List (Nat × AObj)} {os : Array Oper}
/-- A byte of a string. -/
theorem po_indexStr {t : TypeId} {x y : Operand} {s : ByteArray} {kk : IntKind} {i : Int} (hu : X.C.P.underlying t = some .string) (hx : evo X.n ρ x = some (.str s)) (hy : evo X.n ρ y = some (.int kk i)) (h0 : 0 ≤ i) (h1 : i.toNat < s.size) :
    PureOp X ρ Z (.index t x y) (.int .u8 (s[i.toNat]'h1).toNat) := fun own fr σ hf hz => by
  have : s[i.toNat]? = some (s[i.toNat]'h1) := getElem?_pos s _ h1
  simp [opV, evo_sound hf hx, evo_sound hf hy, indexV, hu, h0, this]
theorem wrapU (n : Int) (h0 : 0 ≤ n) (h1 : n < 18446744073709551616) : IntKind.u64.wrap n = n := by
  have : (2 : Int) ^ 64 = 18446744073709551616 := by decide
  simp [IntKind.wrap, IntKind.bits, IntKind.signed, this]
  omega
theorem wrapI' (n : Int) (h0 : -9223372036854775808 ≤ n) (h1 : n ≤ 9223372036854775807) : IntKind.i64.wrap n = n := by rw [wrapI]; omega
theorem wrapB (n : Int) (h0 : 0 ≤ n) (h1 : n < 256) : IntKind.u8.wrap n = n := by
  have : (2 : Int) ^ 8 = 256 := by decide
  simp [IntKind.wrap, IntKind.bits, IntKind.signed, this]
  omega
end
end Go.Ev
namespace Go.Ev
section
variable {X : Cx} {Q : Ex → Fr → St → Prop} {k : List Itm} {ρ : Env} {Z Zr : List (Nat × AObj)} {os : Array Oper}
/-- A call that leaves two new objects. -/
theorem W_callN2 {x : Oper} {xs : List Oper} {d : Nat} {fx : Operand} {args : Array Operand} {ts : Array TypeId} {fv : V} {vs : List V} {v : Nat → Nat → V} {o1 o2 : AObj} (hg : x.guard = none) (hd : x.dst = some d) (hx : x.op = .call { callee := .value fx, args := args, argTypes := ts })
    (hraw : X.C.raw X.f X.m d = false) (hfv : evo X.n ρ fx = some fv) (hvs : evl X.n ρ args.toList = some vs) (hr : ∀ σ, Hp X Z σ → ∃ b1 b2 σ', σ.length ≤ b1 ∧ σ.length ≤ b2 ∧ b1 ≠ b2 ∧ Grows σ σ' ∧ σ'[b1]? = some o1 ∧ σ'[b2]? = some o2 ∧ Run X.C (.app false fv vs) σ (.val (v b1 b2)) σ')
    (h : ∀ b1 b2, X.σ0.length ≤ b1 → X.σ0.length ≤ b2 → W X Q (.ops os xs :: k) (upd ρ d (v b1 b2)) ((b1, o1) :: (b2, o2) :: Z)) : W X Q (.ops os (x :: xs) :: k) ρ Z :=
  W_step fun fr σ hf hz => by
    obtain ⟨b1, b2, σ', hb1, hb2, hne, hgr, ho1, ho2, hrun⟩ := hr σ hz
    have hlt : ∀ p ∈ Z, p.1 < σ.length := fun p hp => (List.getElem?_eq_some_iff.1 (hz.at_ p hp)).1
    have h2 := (hz.grows hgr).know ho2 (Nat.le_trans hz.len hb2) (fun p hp e => by have := hlt p hp; omega)
    exact ⟨_, _, put fr (some d) (v b1 b2), σ', frOK_put hf d _, h2.know ho1 (Nat.le_trans hz.len hb1) (fun p hp e => by
      rcases List.mem_cons.1 hp with rfl | hp
      · exact hne e.symm
      · have := hlt p hp; omega), h b1 b2 (Nat.le_trans hz.len hb1) (Nat.le_trans hz.len hb2), fun i l o' σ'' hi hr' =>
      .call hi (by simp [wantedV, hg]) hx (evo_sound hf hfv) (evl_sound hf hvs) (by rw [hd, Option.getD_some, hraw]; exact hrun) (by rw [hd]; exact hr')⟩
end
end Go.Ev
namespace Go.Ev
section
variable {X : Cx} {Q : Ex → Fr → St → Prop} {k : List Itm} {ρ : Env} {Z Zr : List (Nat × AObj)} {os : Array Oper}
/-- A variable of a slice's type, with a row kept for it. -/
theorem W_allocG {x : Oper} {xs : List Oper} {d : Nat} {e e' : TypeId} (hg : x.guard = none) (hd : x.dst = some d) (hx : x.op = .alloc e) (hz : zeroOf X.C.P e = some (.nilsl none)) (hu : X.C.P.underlying e = some (.slice e'))
    (h : ∀ t b, X.σ0.length ≤ t → X.σ0.length ≤ b → W X Q (.ops os xs :: k) (upd ρ d (.ptr b 0)) ((b, .cells e [grSl true t []]) :: (t, .tok e' 0) :: Z)) : W X Q (.ops os (x :: xs) :: k) ρ Z :=
  W_allocS hg hd hx hz hu fun t b ht hb => by have := h t b ht hb; rwa [grSl_nilT] at this
end
end Go.Ev
namespace Go.Ev
section
variable {X : Cx} {Q : Ex → Fr → St → Prop} {k : List Itm} {ρ : Env} {Z Zr : List (Nat × AObj)} {os : Array Oper}
/-- A loop in its block: what is behind it is gone on with once, whatever way it is left. -/
theorem W_loopJ {S : Type} {c : Code} {id : Nat} (vs : S → List (Nat × V)) (is : List Nat) (ms : S → List AObj) (I E : S → Prop) (m : S → Nat) (s0 : S) {cs : List (Nat × V)} (hc : AllEq ρ cs) (hv : AllEq ρ (vs s0)) (h0 : zsets Z is (ms s0) = Z) (hI : I s0)
    (hb : ∀ s j, I s → (∀ s' ρ' Z', I s' → m s' < m s → AllEq ρ' (vs s') → AllEq ρ' cs → Z' = zsets Z is (ms s') → W X Q (.code (.loop c) :: .inB id :: k) ρ' Z') →
      (∀ s' ρ' Z', E s' → AllEq ρ' (vs s') → AllEq ρ' cs → Z' = zsets Z is (ms s') → W X Q k ρ' Z') → W X Q (.code c :: .code (.loop c) :: .inB id :: k) (upds j (vs s ++ cs)) (zsets Z is (ms s)))
    (hk : ∀ s j, E s → W X Q k (upds j (vs s ++ cs)) (zsets Z is (ms s))) : W X Q (.code (.loop c) :: .inB id :: k) ρ Z :=
  W_loopI vs is ms I m s0 hc hv h0 hI fun s j hI ih => hb s j hI ih fun s' ρ' Z' hE hv' hc' hZ => by
    have := hk s' ρ' hE
    rwa [upds_self (AE_append hv' hc'), ← hZ] at this
end
end Go.Ev

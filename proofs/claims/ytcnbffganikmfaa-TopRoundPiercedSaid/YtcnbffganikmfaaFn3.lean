/- Part 4 of the proof: what the functions of the program hand back. -/
import Derived.Test.YtcnbffganikmfaaEv2
import Derived.Test.YtcnbffganikmfaaProg
import Derived.KernelRfl
set_option linter.unusedVariables false
set_option maxRecDepth 100000
namespace Go.Proofs
open Go Go.Ev
namespace TryT
noncomputable abbrev P := Try.prog
theorem U1 : P.underlying 1 = some (Go.TypeDesc.func #[] #[] false) := Try.underlying1
theorem A1 : isAggT P 1 = false := agg_of U1 rfl
theorem U2 : P.underlying 2 = some (Go.TypeDesc.int Go.IntKind.i64) := Try.underlying2
theorem I2 : P.info? 2 = some Try.t2 := info_of default (Try.typeInfo2 default)
theorem A2 : isAggT P 2 = false := agg_of U2 rfl
theorem Z2 : zeroOf P 2 = some (.int .i64 0) := zero_of I2 rfl
theorem U3 : P.underlying 3 = some (Go.TypeDesc.int Go.IntKind.i64) := Try.underlying3
theorem I3 : P.info? 3 = some Try.t3 := info_of default (Try.typeInfo3 default)
theorem T3 : tsize P 3 = 1 := tsize_of I3 rfl
theorem B3 : tbytes P 3 = 8 := tbytes_of I3 rfl
theorem K3 : knownT P 3 = true := known_of U3
theorem A3 : isAggT P 3 = false := agg_of U3 rfl
theorem Z3 : zeroOf P 3 = some (.int .i64 0) := zero_of I3 rfl
theorem ZO3 : zeroOK P 3 = true := zeroOK_of I3 rfl
theorem U4 : P.underlying 4 = some Go.TypeDesc.bool := Try.underlying4
theorem I4 : P.info? 4 = some Try.t4 := info_of default (Try.typeInfo4 default)
theorem T4 : tsize P 4 = 1 := tsize_of I4 rfl
theorem K4 : knownT P 4 = true := known_of U4
theorem A4 : isAggT P 4 = false := agg_of U4 rfl
theorem Z4 : zeroOf P 4 = some (.bool false) := zero_of I4 rfl
theorem U5 : P.underlying 5 = some (Go.TypeDesc.int Go.IntKind.u8) := Try.underlying5
theorem I5 : P.info? 5 = some Try.t5 := info_of default (Try.typeInfo5 default)
theorem T5 : tsize P 5 = 1 := tsize_of I5 rfl
theorem K5 : knownT P 5 = true := known_of U5
theorem A5 : isAggT P 5 = false := agg_of U5 rfl
theorem U9 : P.underlying 9 = some Go.TypeDesc.string := Try.underlying9
theorem U22 : P.underlying 22 = some (Go.TypeDesc.array 7 5) := Try.underlying22
theorem I22 : P.info? 22 = some Try.t22 := info_of default (Try.typeInfo22 default)
theorem T22 : tsize P 22 = 7 := tsize_of I22 rfl
theorem U23 : P.underlying 23 = some (Go.TypeDesc.array 7 22) := Try.underlying23
theorem I23 : P.info? 23 = some Try.t23 := info_of default (Try.typeInfo23 default)
theorem T23 : tsize P 23 = 49 := tsize_of I23 rfl
theorem U24 : P.underlying 24 = some (Go.TypeDesc.array 2 5) := Try.underlying24
theorem I24 : P.info? 24 = some Try.t24 := info_of default (Try.typeInfo24 default)
theorem T24 : tsize P 24 = 2 := tsize_of I24 rfl
theorem A24 : isAggT P 24 = true := agg_of U24 rfl
theorem U25 : P.underlying 25 = some (Go.TypeDesc.array 6 24) := Try.underlying25
theorem I25 : P.info? 25 = some Try.t25 := info_of default (Try.typeInfo25 default)
theorem T25 : tsize P 25 = 12 := tsize_of I25 rfl
theorem U27 : P.underlying 27 = some (Go.TypeDesc.struct #[{ name := "Minutes", type := 23, offset := 0, embedded := false, tag := "", pkgPath := "", byteOffset := 0 }, { name := "Places", type := 25, offset := 49, embedded := false, tag := "", pkgPath := "", byteOffset := 49 }]) := Try.underlying27
theorem I27 : P.info? 27 = some Try.t27 := info_of default (Try.typeInfo27 default)
theorem T27 : tsize P 27 = 61 := tsize_of I27 rfl
theorem K27 : knownT P 27 = true := known_of U27
theorem A27 : isAggT P 27 = true := agg_of U27 rfl
theorem F27_0 : fieldOf P 27 0 = some { name := "Minutes", type := 23, offset := 0, embedded := false, tag := "", pkgPath := "", byteOffset := 0 } := field_of U27 rfl
theorem F27_1 : fieldOf P 27 1 = some { name := "Places", type := 25, offset := 49, embedded := false, tag := "", pkgPath := "", byteOffset := 49 } := field_of U27 rfl
theorem U28 : P.underlying 28 = some (Go.TypeDesc.slice 5) := Try.underlying28
theorem U30 : P.underlying 30 = some (Go.TypeDesc.struct #[{ name := "Of", type := 3, offset := 0, embedded := false, tag := "", pkgPath := "", byteOffset := 0 }, { name := "High", type := 3, offset := 1, embedded := false, tag := "", pkgPath := "", byteOffset := 8 }]) := Try.underlying30
theorem I30 : P.info? 30 = some Try.t30 := info_of default (Try.typeInfo30 default)
theorem T30 : tsize P 30 = 2 := tsize_of I30 rfl
theorem K30 : knownT P 30 = true := known_of U30
theorem A30 : isAggT P 30 = true := agg_of U30 rfl
theorem Z30 : zeroOf P 30 = some (.agg [.int .i64 0, .int .i64 0]) := zero_of I30 rfl
theorem F30_0 : fieldOf P 30 0 = some { name := "Of", type := 3, offset := 0, embedded := false, tag := "", pkgPath := "", byteOffset := 0 } := field_of U30 rfl
theorem F30_1 : fieldOf P 30 1 = some { name := "High", type := 3, offset := 1, embedded := false, tag := "", pkgPath := "", byteOffset := 8 } := field_of U30 rfl
theorem P30 : placesOf P 30 = some fun i => ([(0, 1), (1, 1)] : List (Nat × Nat))[i]? := places_of U30 (by simp [I3]; decide)
theorem U31 : P.underlying 31 = some (Go.TypeDesc.slice 3) := Try.underlying31
theorem I31 : P.info? 31 = some Try.t31 := info_of default (Try.typeInfo31 default)
theorem T31 : tsize P 31 = 1 := tsize_of I31 rfl
theorem K31 : knownT P 31 = true := known_of U31
theorem A31 : isAggT P 31 = false := agg_of U31 rfl
theorem Z31 : zeroOf P 31 = some (.nilsl none) := zero_of I31 rfl
theorem U33 : P.underlying 33 = some (Go.TypeDesc.struct #[{ name := "Low", type := 3, offset := 0, embedded := false, tag := "", pkgPath := "", byteOffset := 0 }, { name := "High", type := 3, offset := 1, embedded := false, tag := "", pkgPath := "", byteOffset := 8 }]) := Try.underlying33
theorem I33 : P.info? 33 = some Try.t33 := info_of default (Try.typeInfo33 default)
theorem T33 : tsize P 33 = 2 := tsize_of I33 rfl
theorem B33 : tbytes P 33 = 16 := tbytes_of I33 rfl
theorem K33 : knownT P 33 = true := known_of U33
theorem A33 : isAggT P 33 = true := agg_of U33 rfl
theorem Z33 : zeroOf P 33 = some (.agg [.int .i64 0, .int .i64 0]) := zero_of I33 rfl
theorem ZO33 : zeroOK P 33 = true := zeroOK_of I33 rfl
theorem F33_0 : fieldOf P 33 0 = some { name := "Low", type := 3, offset := 0, embedded := false, tag := "", pkgPath := "", byteOffset := 0 } := field_of U33 rfl
theorem F33_1 : fieldOf P 33 1 = some { name := "High", type := 3, offset := 1, embedded := false, tag := "", pkgPath := "", byteOffset := 8 } := field_of U33 rfl
theorem P33 : placesOf P 33 = some fun i => ([(0, 1), (1, 1)] : List (Nat × Nat))[i]? := places_of U33 (by simp [I3]; decide)
theorem U34 : P.underlying 34 = some (Go.TypeDesc.int Go.IntKind.i64) := Try.underlying34
theorem I34 : P.info? 34 = some Try.t34 := info_of default (Try.typeInfo34 default)
theorem T34 : tsize P 34 = 1 := tsize_of I34 rfl
theorem K34 : knownT P 34 = true := known_of U34
theorem A34 : isAggT P 34 = false := agg_of U34 rfl
theorem Z34 : zeroOf P 34 = some (.int .i64 0) := zero_of I34 rfl
theorem U37 : P.underlying 37 = some (Go.TypeDesc.slice 51) := Try.underlying37
theorem I37 : P.info? 37 = some Try.t37 := info_of default (Try.typeInfo37 default)
theorem T37 : tsize P 37 = 1 := tsize_of I37 rfl
theorem K37 : knownT P 37 = true := known_of U37
theorem A37 : isAggT P 37 = false := agg_of U37 rfl
theorem U38 : P.underlying 38 = some (Go.TypeDesc.slice 117) := Try.underlying38
theorem I38 : P.info? 38 = some Try.t38 := info_of default (Try.typeInfo38 default)
theorem T38 : tsize P 38 = 1 := tsize_of I38 rfl
theorem K38 : knownT P 38 = true := known_of U38
theorem A38 : isAggT P 38 = false := agg_of U38 rfl
theorem U40 : P.underlying 40 = some (Go.TypeDesc.struct #[{ name := "Minutes", type := 37, offset := 0, embedded := false, tag := "", pkgPath := "", byteOffset := 0 }, { name := "Places", type := 38, offset := 1, embedded := false, tag := "", pkgPath := "", byteOffset := 24 }, { name := "Holds", type := 3, offset := 2, embedded := false, tag := "", pkgPath := "", byteOffset := 48 }, { name := "Leaves", type := 3, offset := 3, embedded := false, tag := "", pkgPath := "", byteOffset := 56 }, { name := "Back", type := 3, offset := 4, embedded := false, tag := "", pkgPath := "", byteOffset := 64 }]) := Try.underlying40
theorem I40 : P.info? 40 = some Try.t40 := info_of default (Try.typeInfo40 default)
theorem T40 : tsize P 40 = 5 := tsize_of I40 rfl
theorem K40 : knownT P 40 = true := known_of U40
theorem A40 : isAggT P 40 = true := agg_of U40 rfl
theorem Z40 : zeroOf P 40 = some (.agg [.nilsl none, .nilsl none, .int .i64 0, .int .i64 0, .int .i64 0]) := zero_of I40 rfl
theorem F40_0 : fieldOf P 40 0 = some { name := "Minutes", type := 37, offset := 0, embedded := false, tag := "", pkgPath := "", byteOffset := 0 } := field_of U40 rfl
theorem F40_1 : fieldOf P 40 1 = some { name := "Places", type := 38, offset := 1, embedded := false, tag := "", pkgPath := "", byteOffset := 24 } := field_of U40 rfl
theorem F40_2 : fieldOf P 40 2 = some { name := "Holds", type := 3, offset := 2, embedded := false, tag := "", pkgPath := "", byteOffset := 48 } := field_of U40 rfl
theorem F40_3 : fieldOf P 40 3 = some { name := "Leaves", type := 3, offset := 3, embedded := false, tag := "", pkgPath := "", byteOffset := 56 } := field_of U40 rfl
theorem F40_4 : fieldOf P 40 4 = some { name := "Back", type := 3, offset := 4, embedded := false, tag := "", pkgPath := "", byteOffset := 64 } := field_of U40 rfl
theorem P40 : placesOf P 40 = some fun i => ([(0, 1), (1, 1), (2, 1), (3, 1), (4, 1)] : List (Nat × Nat))[i]? := places_of U40 (by simp [I3, I37, I38]; decide)
theorem U51 : P.underlying 51 = some (Go.TypeDesc.slice 33) := Try.underlying51
theorem I51 : P.info? 51 = some Try.t51 := info_of default (Try.typeInfo51 default)
theorem T51 : tsize P 51 = 1 := tsize_of I51 rfl
theorem B51 : tbytes P 51 = 24 := tbytes_of I51 rfl
theorem K51 : knownT P 51 = true := known_of U51
theorem A51 : isAggT P 51 = false := agg_of U51 rfl
theorem Z51 : zeroOf P 51 = some (.nilsl none) := zero_of I51 rfl
theorem ZO51 : zeroOK P 51 = true := zeroOK_of I51 rfl
theorem U114 : P.underlying 114 = some (Go.TypeDesc.struct #[{ name := "StickLoss", type := 30, offset := 0, embedded := true, tag := "", pkgPath := "", byteOffset := 0 }]) := Try.underlying114
theorem I114 : P.info? 114 = some Try.t114 := info_of default (Try.typeInfo114 default)
theorem Z114 : zeroOf P 114 = some (.agg [.int .i64 0, .int .i64 0]) := zero_of I114 rfl
theorem F114_0 : fieldOf P 114 0 = some { name := "StickLoss", type := 30, offset := 0, embedded := true, tag := "", pkgPath := "", byteOffset := 0 } := field_of U114 rfl
theorem P114 : placesOf P 114 = some fun i => ([(0, 2)] : List (Nat × Nat))[i]? := places_of U114 (by simp [I30]; decide)
theorem U117 : P.underlying 117 = some (Go.TypeDesc.struct #[{ name := "Ready", type := 3, offset := 0, embedded := false, tag := "", pkgPath := "", byteOffset := 0 }, { name := "Due", type := 3, offset := 1, embedded := false, tag := "", pkgPath := "", byteOffset := 8 }, { name := "Stop", type := 3, offset := 2, embedded := false, tag := "", pkgPath := "", byteOffset := 16 }, { name := "Brought", type := 3, offset := 3, embedded := false, tag := "", pkgPath := "", byteOffset := 24 }, { name := "Fetched", type := 3, offset := 4, embedded := false, tag := "", pkgPath := "", byteOffset := 32 }]) := Try.underlying117
theorem I117 : P.info? 117 = some Try.t117 := info_of default (Try.typeInfo117 default)
theorem T117 : tsize P 117 = 5 := tsize_of I117 rfl
theorem B117 : tbytes P 117 = 40 := tbytes_of I117 rfl
theorem K117 : knownT P 117 = true := known_of U117
theorem A117 : isAggT P 117 = true := agg_of U117 rfl
theorem Z117 : zeroOf P 117 = some (.agg [.int .i64 0, .int .i64 0, .int .i64 0, .int .i64 0, .int .i64 0]) := zero_of I117 rfl
theorem ZO117 : zeroOK P 117 = true := zeroOK_of I117 rfl
theorem F117_0 : fieldOf P 117 0 = some { name := "Ready", type := 3, offset := 0, embedded := false, tag := "", pkgPath := "", byteOffset := 0 } := field_of U117 rfl
theorem F117_1 : fieldOf P 117 1 = some { name := "Due", type := 3, offset := 1, embedded := false, tag := "", pkgPath := "", byteOffset := 8 } := field_of U117 rfl
theorem F117_2 : fieldOf P 117 2 = some { name := "Stop", type := 3, offset := 2, embedded := false, tag := "", pkgPath := "", byteOffset := 16 } := field_of U117 rfl
theorem F117_3 : fieldOf P 117 3 = some { name := "Brought", type := 3, offset := 3, embedded := false, tag := "", pkgPath := "", byteOffset := 24 } := field_of U117 rfl
theorem F117_4 : fieldOf P 117 4 = some { name := "Fetched", type := 3, offset := 4, embedded := false, tag := "", pkgPath := "", byteOffset := 32 } := field_of U117 rfl
theorem P117 : placesOf P 117 = some fun i => ([(0, 1), (1, 1), (2, 1), (3, 1), (4, 1)] : List (Nat × Nat))[i]? := places_of U117 (by simp [I3]; decide)
theorem U119 : P.underlying 119 = some (Go.TypeDesc.struct #[{ name := "RoundTask", type := 40, offset := 0, embedded := true, tag := "", pkgPath := "", byteOffset := 0 }]) := Try.underlying119
theorem I119 : P.info? 119 = some Try.t119 := info_of default (Try.typeInfo119 default)
theorem T119 : tsize P 119 = 5 := tsize_of I119 rfl
theorem K119 : knownT P 119 = true := known_of U119
theorem A119 : isAggT P 119 = true := agg_of U119 rfl
theorem Z119 : zeroOf P 119 = some (.agg [.nilsl none, .nilsl none, .int .i64 0, .int .i64 0, .int .i64 0]) := zero_of I119 rfl
theorem F119_0 : fieldOf P 119 0 = some { name := "RoundTask", type := 40, offset := 0, embedded := true, tag := "", pkgPath := "", byteOffset := 0 } := field_of U119 rfl
theorem P119 : placesOf P 119 = some fun i => ([(0, 5)] : List (Nat × Nat))[i]? := places_of U119 (by simp [I40]; decide)
theorem U125 : P.underlying 125 = some (Go.TypeDesc.struct #[{ name := "number", type := 3, offset := 0, embedded := false, tag := "", pkgPath := "panache/round", byteOffset := 0 }, { name := "from", type := 3, offset := 1, embedded := false, tag := "", pkgPath := "panache/round", byteOffset := 8 }, { name := "to", type := 3, offset := 2, embedded := false, tag := "", pkgPath := "panache/round", byteOffset := 16 }, { name := "load", type := 3, offset := 3, embedded := false, tag := "", pkgPath := "panache/round", byteOffset := 24 }, { name := "leaves", type := 33, offset := 4, embedded := false, tag := "", pkgPath := "panache/round", byteOffset := 32 }, { name := "comes", type := 33, offset := 6, embedded := false, tag := "", pkgPath := "panache/round", byteOffset := 48 }]) := Try.underlying125
theorem I125 : P.info? 125 = some Try.t125 := info_of default (Try.typeInfo125 default)
theorem T125 : tsize P 125 = 8 := tsize_of I125 rfl
theorem K125 : knownT P 125 = true := known_of U125
theorem A125 : isAggT P 125 = true := agg_of U125 rfl
theorem Z125 : zeroOf P 125 = some (.agg [.int .i64 0, .int .i64 0, .int .i64 0, .int .i64 0, .int .i64 0, .int .i64 0, .int .i64 0, .int .i64 0]) := zero_of I125 rfl
theorem F125_0 : fieldOf P 125 0 = some { name := "number", type := 3, offset := 0, embedded := false, tag := "", pkgPath := "panache/round", byteOffset := 0 } := field_of U125 rfl
theorem F125_1 : fieldOf P 125 1 = some { name := "from", type := 3, offset := 1, embedded := false, tag := "", pkgPath := "panache/round", byteOffset := 8 } := field_of U125 rfl
theorem F125_2 : fieldOf P 125 2 = some { name := "to", type := 3, offset := 2, embedded := false, tag := "", pkgPath := "panache/round", byteOffset := 16 } := field_of U125 rfl
theorem F125_3 : fieldOf P 125 3 = some { name := "load", type := 3, offset := 3, embedded := false, tag := "", pkgPath := "panache/round", byteOffset := 24 } := field_of U125 rfl
theorem F125_4 : fieldOf P 125 4 = some { name := "leaves", type := 33, offset := 4, embedded := false, tag := "", pkgPath := "panache/round", byteOffset := 32 } := field_of U125 rfl
theorem F125_5 : fieldOf P 125 5 = some { name := "comes", type := 33, offset := 6, embedded := false, tag := "", pkgPath := "panache/round", byteOffset := 48 } := field_of U125 rfl
theorem P125 : placesOf P 125 = some fun i => ([(0, 1), (1, 1), (2, 1), (3, 1), (4, 2), (6, 2)] : List (Nat × Nat))[i]? := places_of U125 (by simp [I3, I33]; decide)
theorem U281 : P.underlying 281 = some (Go.TypeDesc.int Go.IntKind.u64) := Try.underlying281
theorem U303 : P.underlying 303 = some (Go.TypeDesc.int Go.IntKind.u64) := Try.underlying303
end TryT
end Go.Proofs

set_option linter.unusedVariables false
set_option linter.unusedSimpArgs false
set_option maxRecDepth 10000
namespace Go.Proofs
open Go Go.Ev TryT


/-- A store that holds another one. -/
def Ext (σ σ' : St) : Prop := ∀ (b : Nat) o, σ[b]? = some o → σ'[b]? = some o
theorem Ext.refl (σ : St) : Ext σ σ := fun _ _ h => h
theorem Ext.trans {a b c : St} (h : Ext a b) (h' : Ext b c) : Ext a c := fun x o hx => h' x o (h x o hx)
theorem ext_of {X : Cx} {Z : List (Nat × AObj)} {σ : St} (h : Hp X Z σ) (hK : X.K = []) : Ext X.σ0 σ := fun b o hb => by
  rw [h.old b (List.getElem?_eq_some_iff.1 hb).1 (by simp [hK])]; exact hb
noncomputable def TC : Cfg := { P := Try.prog, own := fun _ _ _ => false, raw := fun _ _ _ => false, prim := fun _ _ _ => none, isPrim := fun _ => false }
abbrev int (n : Int) : V := .int .i64 n
abbrev span (s : Int × Int) : V := .agg [int s.1, int s.2]

def idxOf {α : Type} (p : α → Bool) (l : List α) : Int := match l.findIdx? p with | some i => i | none => -1
theorem idx_some {α : Type} {p : α → Bool} {l : List α} {i : Nat} {x : α} (hx : l[i]? = some x) (hp : p x = true) (hb : ∀ m y, m < i → l[m]? = some y → p y = false) : idxOf p l = i := by
  have : l.findIdx? p = some i := by
    rw [List.findIdx?_eq_some_iff_getElem]
    obtain ⟨hi, rfl⟩ := List.getElem?_eq_some_iff.1 hx
    exact ⟨hi, hp, fun j hj => by simpa using hb j _ hj (List.getElem?_eq_getElem (by omega))⟩
  simp [idxOf, this]
theorem idx_none {α : Type} {p : α → Bool} {l : List α} (hb : ∀ (m : Nat) y, l[m]? = some y → p y = false) : idxOf p l = -1 := by
  have : l.findIdx? p = none := by
    rw [List.findIdx?_eq_none_iff]
    intro x hx
    obtain ⟨m, hm⟩ := List.getElem?_of_mem hx
    exact hb m x hm
  simp [idxOf, this]
theorem idx_any {α : Type} (p : α → Bool) (l : List α) : decide (0 ≤ idxOf p l) = l.any p := by
  unfold idxOf
  cases h : l.findIdx? p with
  | none =>
    rw [List.findIdx?_eq_none_iff] at h
    simp only [Int.reduceNeg]
    symm
    simpa using h
  | some i =>
    obtain ⟨hi, hp, _⟩ := List.findIdx?_eq_some_iff_getElem.1 h
    have : l.any p = true := List.any_eq_true.2 ⟨_, List.getElem_mem hi, hp⟩
    simp [this]

theorem c17 (a b : Int) (σ : St) : Run TC (.app false (.func (.func 17) [] []) [int a, int b]) σ (.val (span (a, b))) σ := by
  refine fn_pure (n := 8) (fn := Try.f17) rfl Try.func17 rfl rfl rfl ?_
  refine W_seq ?_
  refine W_region rfl ?_
  refine W_alloc rfl rfl rfl Z33 (fun t h => by cases h) (by (conv => lhs; whnf) <;> rfl) fun b4 hb4 => ?_
  refine W_done ?_
  refine W_seq ?_
  refine W_region rfl ?_
  refine W_pure rfl rfl (po_move (ev_t rfl (by (conv => lhs; whnf) <;> rfl))) ?_
  refine W_pure rfl rfl (po_move (ev_t rfl (by (conv => lhs; whnf) <;> rfl))) ?_
  refine W_pure rfl rfl (po_struct (evp_cons (ev_t rfl (by (conv => lhs; whnf) <;> rfl)) (evp_cons (ev_t rfl (by (conv => lhs; whnf) <;> rfl)) evp_nil)) Z33 P33 rfl (by simp only [lay, nth, wr, vcells]; exact rfl)) ?_
  refine W_store (i := 0) rfl rfl rfl (ev_t rfl (by (conv => lhs; whnf) <;> rfl)) (ev_t rfl (by (conv => lhs; whnf) <;> rfl)) rfl (by first | exact vcells_gr | exact vcells_rd | exact (SlOf.cells (by assumption)).1 | ((conv => lhs; whnf) <;> rfl)) T33 rfl rfl (by first | rfl | (simp; done) | (simp [cellOK]; done)) (by simp only [wr]; exact rfl) (by simp only [zset]; exact rfl) ?_
  refine W_done ?_
  exact W_ret fun fr σ' hf hz => ends_of (.inr rfl) hf hz rfl (show resOf _ _ _ _ _ from ⟨_, _, rfl, po_loadA (i := 0) (ev_t rfl (by (conv => lhs; whnf) <;> rfl)) K33 A33 T33 rfl rfl (by simp only [sub]; exact rfl), rfl⟩) rfl fun τ hz2 => by simp [packV, Ev.freeze, Ev.freeze.frL, span]

theorem c86 (a : Int) (σ : St) : Run TC (.app false (.func (.func 86) [] []) [int a]) σ (.val (span (a, a))) σ := by
  refine fn_pure (n := 6) (fn := Try.f86) rfl Try.func86 rfl rfl rfl ?_
  refine W_seq ?_
  refine W_region rfl ?_
  refine W_alloc rfl rfl rfl Z33 (fun t h => by cases h) (by (conv => lhs; whnf) <;> rfl) fun b2 hb2 => ?_
  refine W_done ?_
  refine W_seq ?_
  refine W_region rfl ?_
  refine W_pure rfl rfl (po_move (ev_t rfl (by (conv => lhs; whnf) <;> rfl))) ?_
  refine W_pure rfl rfl (po_move (ev_t rfl (by (conv => lhs; whnf) <;> rfl))) ?_
  refine W_pure rfl rfl (po_struct (evp_cons (ev_t rfl (by (conv => lhs; whnf) <;> rfl)) (evp_cons (ev_t rfl (by (conv => lhs; whnf) <;> rfl)) evp_nil)) Z33 P33 rfl (by simp only [lay, nth, wr, vcells]; exact rfl)) ?_
  refine W_store (i := 0) rfl rfl rfl (ev_t rfl (by (conv => lhs; whnf) <;> rfl)) (ev_t rfl (by (conv => lhs; whnf) <;> rfl)) rfl (by first | exact vcells_gr | exact vcells_rd | exact (SlOf.cells (by assumption)).1 | ((conv => lhs; whnf) <;> rfl)) T33 rfl rfl (by first | rfl | (simp; done) | (simp [cellOK]; done)) (by simp only [wr]; exact rfl) (by simp only [zset]; exact rfl) ?_
  refine W_done ?_
  exact W_ret fun fr σ' hf hz => ends_of (.inr rfl) hf hz rfl (show resOf _ _ _ _ _ from ⟨_, _, rfl, po_loadA (i := 0) (ev_t rfl (by (conv => lhs; whnf) <;> rfl)) K33 A33 T33 rfl rfl (by simp only [sub]; exact rfl), rfl⟩) rfl fun τ hz2 => by simp [packV, Ev.freeze, Ev.freeze.frL, span]

theorem c87 (a b c d : Int) (h : 0 ≤ a ∧ a ≤ 1000000000 ∧ 0 ≤ b ∧ b ≤ 1000000000 ∧ 0 ≤ c ∧ c ≤ 1000000000 ∧ 0 ≤ d ∧ d ≤ 1000000000) (σ : St) : Run TC (.app false (.func (.func 87) [] []) [.agg [int a, int b], .agg [int c, int d]]) σ (.val (span (a + c, b + d))) σ := by
  refine fn_pure (n := 16) (fn := Try.f87) rfl Try.func87 rfl rfl rfl ?_
  refine W_seq ?_
  refine W_region rfl ?_
  refine W_box rfl rfl rfl (ev_t rfl (by (conv => lhs; whnf) <;> rfl)) (by first | exact vcells_gr | exact vcells_rd | exact (SlOf.cells (by assumption)).1 | ((conv => lhs; whnf) <;> rfl)) fun b2 hb2 => ?_
  refine W_box rfl rfl rfl (ev_t rfl (by (conv => lhs; whnf) <;> rfl)) (by first | exact vcells_gr | exact vcells_rd | exact (SlOf.cells (by assumption)).1 | ((conv => lhs; whnf) <;> rfl)) fun b3 hb3 => ?_
  refine W_alloc rfl rfl rfl Z33 (fun t h => by cases h) (by (conv => lhs; whnf) <;> rfl) fun b4 hb4 => ?_
  refine W_done ?_
  refine W_seq ?_
  refine W_region rfl ?_
  refine W_pure rfl rfl (po_fieldAddr (ev_t rfl (by (conv => lhs; whnf) <;> rfl)) F33_0 T3 (by (conv => lhs; whnf) <;> rfl)) ?_
  refine W_pure rfl rfl (po_load (i := 2) (ev_t rfl (by (conv => lhs; whnf) <;> rfl)) K3 A3 rfl rfl) ?_
  refine W_pure rfl rfl (po_fieldAddr (ev_t rfl (by (conv => lhs; whnf) <;> rfl)) F33_0 T3 (by (conv => lhs; whnf) <;> rfl)) ?_
  refine W_pure rfl rfl (po_load (i := 1) (ev_t rfl (by (conv => lhs; whnf) <;> rfl)) K3 A3 rfl rfl) ?_
  refine W_pure rfl rfl (po_add (ev_t rfl (by (conv => lhs; whnf) <;> rfl)) (ev_t rfl (by (conv => lhs; whnf) <;> rfl)) (by first | omega | (simp only [List.length_map, List.length_append, List.length_cons, List.length_nil] at *; omega))) ?_
  refine W_pure rfl rfl (po_fieldAddr (ev_t rfl (by (conv => lhs; whnf) <;> rfl)) F33_1 T3 (by (conv => lhs; whnf) <;> rfl)) ?_
  refine W_pure rfl rfl (po_load (i := 2) (ev_t rfl (by (conv => lhs; whnf) <;> rfl)) K3 A3 rfl rfl) ?_
  refine W_pure rfl rfl (po_fieldAddr (ev_t rfl (by (conv => lhs; whnf) <;> rfl)) F33_1 T3 (by (conv => lhs; whnf) <;> rfl)) ?_
  refine W_pure rfl rfl (po_load (i := 1) (ev_t rfl (by (conv => lhs; whnf) <;> rfl)) K3 A3 rfl rfl) ?_
  refine W_pure rfl rfl (po_add (ev_t rfl (by (conv => lhs; whnf) <;> rfl)) (ev_t rfl (by (conv => lhs; whnf) <;> rfl)) (by first | omega | (simp only [List.length_map, List.length_append, List.length_cons, List.length_nil] at *; omega))) ?_
  refine W_pure rfl rfl (po_struct (evp_cons (ev_t rfl (by (conv => lhs; whnf) <;> rfl)) (evp_cons (ev_t rfl (by (conv => lhs; whnf) <;> rfl)) evp_nil)) Z33 P33 rfl (by simp only [lay, nth, wr, vcells]; exact rfl)) ?_
  refine W_store (i := 0) rfl rfl rfl (ev_t rfl (by (conv => lhs; whnf) <;> rfl)) (ev_t rfl (by (conv => lhs; whnf) <;> rfl)) rfl (by first | exact vcells_gr | exact vcells_rd | exact (SlOf.cells (by assumption)).1 | ((conv => lhs; whnf) <;> rfl)) T33 rfl rfl (by first | rfl | (simp; done) | (simp [cellOK]; done)) (by simp only [wr]; exact rfl) (by simp only [zset]; exact rfl) ?_
  refine W_done ?_
  exact W_ret fun fr σ' hf hz => ends_of (.inr rfl) hf hz rfl (show resOf _ _ _ _ _ from ⟨_, _, rfl, po_loadA (i := 0) (ev_t rfl (by (conv => lhs; whnf) <;> rfl)) K33 A33 T33 rfl rfl (by simp only [sub]; exact rfl), rfl⟩) rfl fun τ hz2 => by clear hf hz; simp [packV, Ev.freeze, Ev.freeze.frL, span]

theorem c118 {fv vl : V} {p : Int → Bool} {l : List (Int)} {σ : St} (hl : SlOf vl (l.map int)) (hp : ∀ x ∈ l, ∀ σ', Ext σ σ' → Run TC (.app false fv [int x]) σ' (.val (.bool (p x))) σ') (hlen : l.length ≤ 4611686018427387904) :
    Run TC (.app false (.func (.func 118) [] []) [vl, fv]) σ (.val (int (idxOf p l))) σ := by
  refine fn_pure (n := 19) (fn := Try.f118) rfl Try.func118 rfl rfl rfl ?_
  refine W_seq ?_
  refine W_region rfl ?_
  refine W_pure rfl rfl (po_assign rfl) ?_
  refine W_done ?_
  refine W_seq ?_
  refine W_seq ?_
  refine W_region rfl ?_
  refine W_pure rfl rfl (po_move (ev_t rfl (by (conv => lhs; whnf) <;> rfl))) ?_
  refine W_pure rfl rfl (po_lenS rfl U31 (ev_t rfl (by (conv => lhs; whnf) <;> rfl)) (by first | exact SlOf.sl | exact SlOf.gr | exact SlOf.rd | exact SlOf.nil | assumption)) ?_
  refine W_pure rfl rfl (po_move rfl) ?_
  refine W_done ?_
  refine W_block ?_
  refine W_loopI (S := Nat) (fun i => [(8, int i)]) [] (fun i => []) (fun i => i ≤ l.length ∧ ∀ m y, m < i → l[m]? = some y → p y = false) (fun i => l.length - i) (0) (AE 0 (by (conv => lhs; whnf) <;> rfl) (AE 1 (by (conv => lhs; whnf) <;> rfl) (AE 4 (by (conv => lhs; whnf) <;> rfl) (AE 7 (by (conv => lhs; whnf) <;> rfl) AE_nil)))) (AE 8 (Eq.trans (by (conv => lhs; whnf) <;> rfl) (by first | rfl | (simp; done) | (simp; omega))) AE_nil) rfl (⟨Nat.zero_le _, fun m y hm => by omega⟩) ?_
  rintro i j0 hI0 ih0
  obtain ⟨hi, hb⟩ := hI0
  refine W_eqZ (by simp only [zsets, zset]; exact rfl) ?_
  refine W_seq ?_
  refine W_region rfl ?_
  refine W_pure rfl rfl (po_bin (ev_t rfl (by (conv => lhs; whnf) <;> rfl)) (ev_t rfl (by (conv => lhs; whnf) <;> rfl)) (by (conv => lhs; whnf) <;> rfl)) ?_
  refine W_done ?_
  refine W_seq ?_
  refine W_if (ev_t rfl (by (conv => lhs; whnf) <;> rfl)) (fun g0 => ?_) (fun g0 => ?_)
  · (try simp only [decide_eq_true_eq, decide_eq_false_iff_not, beq_iff_eq, beq_eq_false_iff_ne, bne_iff_ne, ne_eq, bne_eq_false_iff_eq, Bool.not_eq_true', Bool.not_eq_false', Bool.not_eq_true, Bool.not_eq_false, Bool.not_false, Bool.not_true, not_lt, not_le, Int.not_lt, Int.not_le, Decidable.not_not] at g0); (try simp at g0)
    have hlt : i < l.length := by omega
    obtain ⟨x, hx⟩ : ∃ x, l[i]? = some x := ⟨_, List.getElem?_eq_getElem hlt⟩
    refine W_skip ?_
    refine W_seq ?_
    refine W_block ?_
    refine W_seq ?_
    refine W_region rfl ?_
    refine W_pure rfl rfl (po_move (ev_t rfl (by (conv => lhs; whnf) <;> rfl))) ?_
    refine W_pure rfl rfl (po_assign (ev_t rfl (by (conv => lhs; whnf) <;> rfl))) ?_
    refine W_done ?_
    refine W_seq ?_
    refine W_region rfl ?_
    refine W_pure rfl rfl (po_move (ev_t rfl (by (conv => lhs; whnf) <;> rfl))) ?_
    refine W_pure rfl rfl (po_move (ev_t rfl (by (conv => lhs; whnf) <;> rfl))) ?_
    refine W_pure rfl rfl (po_move (ev_t rfl (by (conv => lhs; whnf) <;> rfl))) ?_
    refine W_pure rfl rfl (po_indexAddrS U31 T3 (ev_t rfl (by (conv => lhs; whnf) <;> rfl)) (by first | exact SlOf.sl | exact SlOf.gr | exact SlOf.rd | exact SlOf.nil | assumption) (ev_t rfl (by (conv => lhs; whnf) <;> rfl)) (by first | omega | (simp only [List.length_map, List.length_append, List.length_cons, List.length_nil] at *; omega)) (show _ = some (int x) by simp [hx]) (by first | exact vcells_gr | exact vcells_rd | exact (SlOf.cells (by assumption)).1 | ((conv => lhs; whnf) <;> rfl)) rfl) ?_
    refine W_pure rfl rfl (po_loadR (ev_t rfl (by (conv => lhs; whnf) <;> rfl)) K3 A3) ?_
    refine W_call rfl rfl rfl rfl (ev_t rfl (by (conv => lhs; whnf) <;> rfl)) (evl_cons (ev_t rfl (by (conv => lhs; whnf) <;> rfl)) evl_nil) (fun σ hz => hp x (List.mem_of_getElem? hx) σ (ext_of hz rfl)) ?_
    refine W_done ?_
    refine W_if (ev_t rfl (by (conv => lhs; whnf) <;> rfl)) (fun g1 => ?_) (fun g1 => ?_)
    · (try simp only [decide_eq_true_eq, decide_eq_false_iff_not, beq_iff_eq, beq_eq_false_iff_ne, bne_iff_ne, ne_eq, bne_eq_false_iff_eq, Bool.not_eq_true', Bool.not_eq_false', Bool.not_eq_true, Bool.not_eq_false, Bool.not_false, Bool.not_true, not_lt, not_le, Int.not_lt, Int.not_le, Decidable.not_not] at g1); (try simp at g1)
      have he := idx_some hx g1 hb
      refine W_seq ?_
      refine W_region rfl ?_
      refine W_pure rfl rfl (po_move (ev_t rfl (by (conv => lhs; whnf) <;> rfl))) ?_
      refine W_pure rfl rfl (po_assign (ev_t rfl (by (conv => lhs; whnf) <;> rfl))) ?_
      refine W_done ?_
      exact W_ret fun fr σ' hf hz => ends_of (.inr rfl) hf hz rfl (show resOf _ _ _ _ _ from ⟨_, _, rfl, ev_t rfl (by (conv => lhs; whnf) <;> rfl), rfl⟩) rfl fun τ hz2 => by clear hf hz; simp_all [packV, Ev.freeze]
    · (try simp only [decide_eq_true_eq, decide_eq_false_iff_not, beq_iff_eq, beq_eq_false_iff_ne, bne_iff_ne, ne_eq, bne_eq_false_iff_eq, Bool.not_eq_true', Bool.not_eq_false', Bool.not_eq_true, Bool.not_eq_false, Bool.not_false, Bool.not_true, not_lt, not_le, Int.not_lt, Int.not_le, Decidable.not_not] at g1); (try simp at g1)
      refine W_skip ?_
      refine W_inB ?_
      refine W_region rfl ?_
      refine W_pure rfl rfl (po_add (ev_t rfl (by (conv => lhs; whnf) <;> rfl)) rfl (by first | omega | (simp only [List.length_map, List.length_append, List.length_cons, List.length_nil] at *; omega))) ?_
      refine W_pure rfl rfl (po_move (ev_t rfl (by (conv => lhs; whnf) <;> rfl))) ?_
      refine W_done ?_
      exact ih0 (i + 1) _ _ (⟨by omega, fun m y hm hy => by rcases Nat.lt_succ_iff_lt_or_eq.1 hm with h | rfl <;> first | exact hb m y h hy | (rw [hx] at hy; cases hy; exact g1)⟩) (by omega) (AE 8 (Eq.trans (by (conv => lhs; whnf) <;> rfl) (by first | rfl | (simp; done) | (simp; omega))) AE_nil) (AE 0 (by (conv => lhs; whnf) <;> rfl) (AE 1 (by (conv => lhs; whnf) <;> rfl) (AE 4 (by (conv => lhs; whnf) <;> rfl) (AE 7 (by (conv => lhs; whnf) <;> rfl) AE_nil)))) rfl
  · (try simp only [decide_eq_true_eq, decide_eq_false_iff_not, beq_iff_eq, beq_eq_false_iff_ne, bne_iff_ne, ne_eq, bne_eq_false_iff_eq, Bool.not_eq_true', Bool.not_eq_false', Bool.not_eq_true, Bool.not_eq_false, Bool.not_false, Bool.not_true, not_lt, not_le, Int.not_lt, Int.not_le, Decidable.not_not] at g0); (try simp at g0)
    have he := idx_none (p := p) (l := l) (fun m y hy => hb m y (by have := (List.getElem?_eq_some_iff.1 hy).1; omega) hy)
    refine W_exit rfl ?_
    refine W_seq ?_
    refine W_region rfl ?_
    refine W_pure rfl rfl (po_assign rfl) ?_
    refine W_done ?_
    exact W_ret fun fr σ' hf hz => ends_of (.inr rfl) hf hz rfl (show resOf _ _ _ _ _ from ⟨_, _, rfl, ev_t rfl (by (conv => lhs; whnf) <;> rfl), rfl⟩) rfl fun τ hz2 => by clear hf hz; simp_all [packV, Ev.freeze]

theorem c78 {fv vl : V} {p : Int → Bool} {l : List (Int)} {σ : St} (hl : SlOf vl (l.map int)) (hp : ∀ x ∈ l, ∀ σ', Ext σ σ' → Run TC (.app false fv [int x]) σ' (.val (.bool (p x))) σ') (hlen : l.length ≤ 4611686018427387904) :
    Run TC (.app false (.func (.func 78) [] []) [vl, fv]) σ (.val (.bool (l.any p))) σ := by
  refine fn_pure (n := 9) (fn := Try.f78) rfl Try.func78 rfl rfl rfl ?_
  refine W_seq ?_
  refine W_region rfl ?_
  refine W_pure rfl rfl (po_assign rfl) ?_
  refine W_done ?_
  refine W_seq ?_
  refine W_region rfl ?_
  refine W_pure rfl rfl (po_move (ev_t rfl (by (conv => lhs; whnf) <;> rfl))) ?_
  refine W_pure rfl rfl (po_move (ev_t rfl (by (conv => lhs; whnf) <;> rfl))) ?_
  refine W_call rfl rfl rfl rfl rfl (evl_cons (ev_t rfl (by (conv => lhs; whnf) <;> rfl)) (evl_cons (ev_t rfl (by (conv => lhs; whnf) <;> rfl)) evl_nil)) (fun σ hz => c118 hl (fun x hx σ' he => hp x hx σ' ((ext_of hz rfl).trans he)) hlen) ?_
  refine W_pure rfl rfl (po_bin (ev_t rfl (by (conv => lhs; whnf) <;> rfl)) rfl (by (conv => lhs; whnf) <;> rfl)) ?_
  refine W_pure rfl rfl (po_assign (ev_t rfl (by (conv => lhs; whnf) <;> rfl))) ?_
  refine W_done ?_
  exact W_ret fun fr σ' hf hz => ends_of (.inr rfl) hf hz rfl (show resOf _ _ _ _ _ from ⟨_, _, rfl, ev_t rfl (by (conv => lhs; whnf) <;> rfl), rfl⟩) rfl fun τ hz2 => by clear hf hz; simp [packV, Ev.freeze, ← idx_any]

theorem c79 (lo hi n : Int) (b1 b2 : Nat) (σ : St) (h1 : σ[b1]? = some (.cells 3 [int lo])) (h2 : σ[b2]? = some (.cells 3 [int hi])) :
    Run TC (.app false (.func (.func 79) [] [.ptr b1 0, .ptr b2 0]) [int n]) σ (.val (.bool (decide (n < lo) || decide (n > hi)))) σ := by
  refine fn_pure (n := 13) (fn := Try.f79) rfl Try.func79 rfl rfl rfl ?_
  refine W_seq ?_
  refine W_region rfl ?_
  refine W_pure rfl rfl (po_assign rfl) ?_
  refine W_done ?_
  refine W_seq ?_
  refine W_region rfl ?_
  refine W_pure rfl rfl (po_move (ev_t rfl (by (conv => lhs; whnf) <;> rfl))) ?_
  refine W_pure rfl rfl (po_loadO (ev_t rfl (by (conv => lhs; whnf) <;> rfl)) K3 A3 h1 (by simp) rfl) ?_
  refine W_pure rfl rfl (po_bin (ev_t rfl (by (conv => lhs; whnf) <;> rfl)) (ev_t rfl (by (conv => lhs; whnf) <;> rfl)) (by (conv => lhs; whnf) <;> rfl)) ?_
  refine W_pure rfl rfl (po_move (ev_t rfl (by (conv => lhs; whnf) <;> rfl))) ?_
  refine W_split (t := 8) (by (conv => lhs; whnf) <;> rfl) (fun g1 => ?_) (fun g1 => ?_)
  · (try simp only [decide_eq_true_eq, decide_eq_false_iff_not, beq_iff_eq, beq_eq_false_iff_ne, bne_iff_ne, ne_eq, bne_eq_false_iff_eq, Bool.not_eq_true', Bool.not_eq_false', Bool.not_eq_true, Bool.not_eq_false, Bool.not_false, Bool.not_true, not_lt, not_le, Int.not_lt, Int.not_le, Decidable.not_not] at g1); (try simp at g1)
    refine W_no rfl rfl rfl rfl rfl rfl ?_
    refine W_no rfl rfl rfl rfl rfl rfl ?_
    refine W_no rfl rfl rfl rfl rfl rfl ?_
    refine W_pure rfl rfl (po_pickT (ev_t rfl (by (conv => lhs; whnf) <;> rfl)) rfl) ?_
    refine W_pure rfl rfl (po_assign (ev_t rfl (by (conv => lhs; whnf) <;> rfl))) ?_
    refine W_done ?_
    exact W_ret fun fr σ' hf hz => ends_of (.inr rfl) hf hz rfl (show resOf _ _ _ _ _ from ⟨_, _, rfl, ev_t rfl (by (conv => lhs; whnf) <;> rfl), rfl⟩) rfl fun τ hz2 => by clear hf hz; simp_all [packV, Ev.freeze] <;> omega
  · (try simp only [decide_eq_true_eq, decide_eq_false_iff_not, beq_iff_eq, beq_eq_false_iff_ne, bne_iff_ne, ne_eq, bne_eq_false_iff_eq, Bool.not_eq_true', Bool.not_eq_false', Bool.not_eq_true, Bool.not_eq_false, Bool.not_false, Bool.not_true, not_lt, not_le, Int.not_lt, Int.not_le, Decidable.not_not] at g1); (try simp at g1)
    refine W_yes rfl rfl rfl rfl rfl rfl (po_move (ev_t rfl (by (conv => lhs; whnf) <;> rfl))) ?_
    refine W_yes rfl rfl rfl rfl rfl rfl (po_loadO (ev_t rfl (by (conv => lhs; whnf) <;> rfl)) K3 A3 h2 (by simp) rfl) ?_
    refine W_yes rfl rfl rfl rfl rfl rfl (po_bin (ev_t rfl (by (conv => lhs; whnf) <;> rfl)) (ev_t rfl (by (conv => lhs; whnf) <;> rfl)) (by (conv => lhs; whnf) <;> rfl)) ?_
    refine W_pure rfl rfl (po_pickF (ev_t rfl (by (conv => lhs; whnf) <;> rfl)) (ev_t rfl (by (conv => lhs; whnf) <;> rfl))) ?_
    refine W_pure rfl rfl (po_assign (ev_t rfl (by (conv => lhs; whnf) <;> rfl))) ?_
    refine W_done ?_
    exact W_ret fun fr σ' hf hz => ends_of (.inr rfl) hf hz rfl (show resOf _ _ _ _ _ from ⟨_, _, rfl, ev_t rfl (by (conv => lhs; whnf) <;> rfl), rfl⟩) rfl fun τ hz2 => by clear hf hz; simp_all [packV, Ev.freeze] <;> omega

/-- Do all lie between. -/
def inside (lo hi : Int) (l : List Int) : Bool := !l.any fun n => decide (n < lo) || decide (n > hi)
theorem c34 (lo hi : Int) (l : List Int) {vl : V} (hl : SlOf vl (l.map int)) (hlen : l.length ≤ 4611686018427387904) (σ : St) : Run TC (.app false (.func (.func 34) [] []) [int lo, int hi, vl]) σ (.val (.bool (inside lo hi l))) σ := by
  refine fn_pure (n := 11) (fn := Try.f34) rfl Try.func34 rfl rfl rfl ?_
  refine W_seq ?_
  refine W_region rfl ?_
  refine W_box rfl rfl rfl (ev_t rfl (by (conv => lhs; whnf) <;> rfl)) (by first | exact vcells_gr | exact vcells_rd | exact (SlOf.cells (by assumption)).1 | ((conv => lhs; whnf) <;> rfl)) fun b3 hb3 => ?_
  refine W_box rfl rfl rfl (ev_t rfl (by (conv => lhs; whnf) <;> rfl)) (by first | exact vcells_gr | exact vcells_rd | exact (SlOf.cells (by assumption)).1 | ((conv => lhs; whnf) <;> rfl)) fun b4 hb4 => ?_
  refine W_pure rfl rfl (po_assign rfl) ?_
  refine W_done ?_
  refine W_seq ?_
  refine W_region rfl ?_
  refine W_pure rfl rfl (po_move (ev_t rfl (by (conv => lhs; whnf) <;> rfl))) ?_
  refine W_pure rfl rfl (po_func evl_nil (evl_cons (ev_t rfl (by (conv => lhs; whnf) <;> rfl)) (evl_cons (ev_t rfl (by (conv => lhs; whnf) <;> rfl)) evl_nil))) ?_
  refine W_call rfl rfl rfl rfl rfl (evl_cons (ev_t rfl (by (conv => lhs; whnf) <;> rfl)) (evl_cons (ev_t rfl (by (conv => lhs; whnf) <;> rfl)) evl_nil)) (fun σ hz => c78 (p := fun n => decide (n < lo) || decide (n > hi)) (l := l) hl (fun x hx σ' he => c79 lo hi x _ _ σ' (he _ _ (hz.get (i := 1) rfl)) (he _ _ (hz.get (i := 0) rfl))) hlen) ?_
  refine W_pure rfl rfl (po_un (ev_t rfl (by (conv => lhs; whnf) <;> rfl)) (by (conv => lhs; whnf) <;> rfl)) ?_
  refine W_pure rfl rfl (po_assign (ev_t rfl (by (conv => lhs; whnf) <;> rfl))) ?_
  refine W_done ?_
  exact W_ret fun fr σ' hf hz => ends_of (.inr rfl) hf hz rfl (show resOf _ _ _ _ _ from ⟨_, _, rfl, ev_t rfl (by (conv => lhs; whnf) <;> rfl), rfl⟩) rfl fun τ hz2 => by clear hf hz; simp [packV, Ev.freeze, inside]

theorem c123 (lo hi n : Int) (b1 b2 : Nat) (σ : St) (h1 : σ[b1]? = some (.cells 3 [int lo])) (h2 : σ[b2]? = some (.cells 3 [int hi])) :
    Run TC (.app false (.func (.func 123) [] [.ptr b1 0, .ptr b2 0]) [int n]) σ (.val (.bool (decide (n < lo) || decide (n > hi)))) σ := by
  refine fn_pure (n := 13) (fn := Try.f123) rfl Try.func123 rfl rfl rfl ?_
  refine W_seq ?_
  refine W_region rfl ?_
  refine W_pure rfl rfl (po_assign rfl) ?_
  refine W_done ?_
  refine W_seq ?_
  refine W_region rfl ?_
  refine W_pure rfl rfl (po_move (ev_t rfl (by (conv => lhs; whnf) <;> rfl))) ?_
  refine W_pure rfl rfl (po_loadO (ev_t rfl (by (conv => lhs; whnf) <;> rfl)) K3 A3 h1 (by simp) rfl) ?_
  refine W_pure rfl rfl (po_bin (ev_t rfl (by (conv => lhs; whnf) <;> rfl)) (ev_t rfl (by (conv => lhs; whnf) <;> rfl)) (by (conv => lhs; whnf) <;> rfl)) ?_
  refine W_pure rfl rfl (po_move (ev_t rfl (by (conv => lhs; whnf) <;> rfl))) ?_
  refine W_split (t := 8) (by (conv => lhs; whnf) <;> rfl) (fun g1 => ?_) (fun g1 => ?_)
  · (try simp only [decide_eq_true_eq, decide_eq_false_iff_not, beq_iff_eq, beq_eq_false_iff_ne, bne_iff_ne, ne_eq, bne_eq_false_iff_eq, Bool.not_eq_true', Bool.not_eq_false', Bool.not_eq_true, Bool.not_eq_false, Bool.not_false, Bool.not_true, not_lt, not_le, Int.not_lt, Int.not_le, Decidable.not_not] at g1); (try simp at g1)
    refine W_no rfl rfl rfl rfl rfl rfl ?_
    refine W_no rfl rfl rfl rfl rfl rfl ?_
    refine W_no rfl rfl rfl rfl rfl rfl ?_
    refine W_pure rfl rfl (po_pickT (ev_t rfl (by (conv => lhs; whnf) <;> rfl)) rfl) ?_
    refine W_pure rfl rfl (po_assign (ev_t rfl (by (conv => lhs; whnf) <;> rfl))) ?_
    refine W_done ?_
    exact W_ret fun fr σ' hf hz => ends_of (.inr rfl) hf hz rfl (show resOf _ _ _ _ _ from ⟨_, _, rfl, ev_t rfl (by (conv => lhs; whnf) <;> rfl), rfl⟩) rfl fun τ hz2 => by clear hf hz; simp_all [packV, Ev.freeze] <;> omega
  · (try simp only [decide_eq_true_eq, decide_eq_false_iff_not, beq_iff_eq, beq_eq_false_iff_ne, bne_iff_ne, ne_eq, bne_eq_false_iff_eq, Bool.not_eq_true', Bool.not_eq_false', Bool.not_eq_true, Bool.not_eq_false, Bool.not_false, Bool.not_true, not_lt, not_le, Int.not_lt, Int.not_le, Decidable.not_not] at g1); (try simp at g1)
    refine W_yes rfl rfl rfl rfl rfl rfl (po_move (ev_t rfl (by (conv => lhs; whnf) <;> rfl))) ?_
    refine W_yes rfl rfl rfl rfl rfl rfl (po_loadO (ev_t rfl (by (conv => lhs; whnf) <;> rfl)) K3 A3 h2 (by simp) rfl) ?_
    refine W_yes rfl rfl rfl rfl rfl rfl (po_bin (ev_t rfl (by (conv => lhs; whnf) <;> rfl)) (ev_t rfl (by (conv => lhs; whnf) <;> rfl)) (by (conv => lhs; whnf) <;> rfl)) ?_
    refine W_pure rfl rfl (po_pickF (ev_t rfl (by (conv => lhs; whnf) <;> rfl)) (ev_t rfl (by (conv => lhs; whnf) <;> rfl))) ?_
    refine W_pure rfl rfl (po_assign (ev_t rfl (by (conv => lhs; whnf) <;> rfl))) ?_
    refine W_done ?_
    exact W_ret fun fr σ' hf hz => ends_of (.inr rfl) hf hz rfl (show resOf _ _ _ _ _ from ⟨_, _, rfl, ev_t rfl (by (conv => lhs; whnf) <;> rfl), rfl⟩) rfl fun τ hz2 => by clear hf hz; simp_all [packV, Ev.freeze] <;> omega

theorem c83 (lo hi : Int) (l : List Int) {vl : V} (hl : SlOf vl (l.map int)) (hlen : l.length ≤ 4611686018427387904) (σ : St) : Run TC (.app false (.func (.func 83) [] []) [int lo, int hi, vl]) σ (.val (.bool (inside lo hi l))) σ := by
  refine fn_pure (n := 11) (fn := Try.f83) rfl Try.func83 rfl rfl rfl ?_
  refine W_seq ?_
  refine W_region rfl ?_
  refine W_box rfl rfl rfl (ev_t rfl (by (conv => lhs; whnf) <;> rfl)) (by first | exact vcells_gr | exact vcells_rd | exact (SlOf.cells (by assumption)).1 | ((conv => lhs; whnf) <;> rfl)) fun b3 hb3 => ?_
  refine W_box rfl rfl rfl (ev_t rfl (by (conv => lhs; whnf) <;> rfl)) (by first | exact vcells_gr | exact vcells_rd | exact (SlOf.cells (by assumption)).1 | ((conv => lhs; whnf) <;> rfl)) fun b4 hb4 => ?_
  refine W_pure rfl rfl (po_assign rfl) ?_
  refine W_done ?_
  refine W_seq ?_
  refine W_region rfl ?_
  refine W_pure rfl rfl (po_move (ev_t rfl (by (conv => lhs; whnf) <;> rfl))) ?_
  refine W_pure rfl rfl (po_func evl_nil (evl_cons (ev_t rfl (by (conv => lhs; whnf) <;> rfl)) (evl_cons (ev_t rfl (by (conv => lhs; whnf) <;> rfl)) evl_nil))) ?_
  refine W_call rfl rfl rfl rfl rfl (evl_cons (ev_t rfl (by (conv => lhs; whnf) <;> rfl)) (evl_cons (ev_t rfl (by (conv => lhs; whnf) <;> rfl)) evl_nil)) (fun σ hz => c78 (p := fun n => decide (n < lo) || decide (n > hi)) (l := l) hl (fun x hx σ' he => c123 lo hi x _ _ σ' (he _ _ (hz.get (i := 1) rfl)) (he _ _ (hz.get (i := 0) rfl))) hlen) ?_
  refine W_pure rfl rfl (po_un (ev_t rfl (by (conv => lhs; whnf) <;> rfl)) (by (conv => lhs; whnf) <;> rfl)) ?_
  refine W_pure rfl rfl (po_assign (ev_t rfl (by (conv => lhs; whnf) <;> rfl))) ?_
  refine W_done ?_
  exact W_ret fun fr σ' hf hz => ends_of (.inr rfl) hf hz rfl (show resOf _ _ _ _ _ from ⟨_, _, rfl, ev_t rfl (by (conv => lhs; whnf) <;> rfl), rfl⟩) rfl fun τ hz2 => by clear hf hz; simp [packV, Ev.freeze, inside]

end Go.Proofs

set_option linter.unusedVariables false
set_option linter.unusedSimpArgs false
set_option maxRecDepth 10000
namespace Go.Proofs
open Go Go.Ev TryT


/-! ### stick.Whole -/
theorem inside_two {lo hi a b : Int} (h : lo ≤ a ∧ a ≤ hi ∧ lo ≤ b ∧ b ≤ hi) : inside lo hi [a, b] = true := by
  have h1 : ¬ a < lo := by omega
  have h2 : ¬ a > hi := by omega
  have h3 : ¬ b < lo := by omega
  have h4 : ¬ b > hi := by omega
  simp [inside, h1, h2, h3, h4]
theorem inside_one {lo hi n : Int} (h : lo ≤ n ∧ n ≤ hi) : inside lo hi [n] = true := by
  have h1 : ¬ n < lo := by omega
  have h2 : ¬ n > hi := by omega
  simp [inside, h1, h2]
def breaks (of high n : Int) : Int := n / of * high + (if high < n % of then high else n % of)
theorem breaks_le {of high n : Int} (h : 2 ≤ of ∧ of ≤ 10 ∧ 0 ≤ high ∧ high ≤ of) (hn : 0 ≤ n) : 0 ≤ breaks of high n ∧ breaks of high n ≤ n := by
  have h1 : 0 ≤ n / of := Int.ediv_nonneg hn (by omega)
  have h2 : n % of < of := Int.emod_lt_of_pos n (by omega)
  have h3 : 0 ≤ n % of := Int.emod_nonneg n (by omega)
  have h4 : of * (n / of) + n % of = n := Int.mul_ediv_add_emod n of
  have h5 : n / of * high ≤ n / of * of := Int.mul_le_mul_of_nonneg_left (by omega) h1
  have h6 : 0 ≤ n / of * high := Int.mul_nonneg h1 (by omega)
  have h7 : n / of * of = of * (n / of) := Int.mul_comm _ _
  unfold breaks
  split <;> omega

theorem c33 (of high : Int) (h : 2 ≤ of ∧ of ≤ 10 ∧ 0 ≤ high ∧ high ≤ of) (σ : St) : Run TC (.app false (.func (.func 33) [] []) [.agg [int of, int high]]) σ (.val (.bool true)) σ := by
  refine fn_pure (n := 15) (fn := Try.f33) rfl Try.func33 rfl rfl rfl ?_
  refine W_seq ?_
  refine W_region rfl ?_
  refine W_box rfl rfl rfl (ev_t rfl (by (conv => lhs; whnf) <;> rfl)) (by first | exact vcells_gr | exact vcells_rd | exact (SlOf.cells (by assumption)).1 | ((conv => lhs; whnf) <;> rfl)) fun b1 hb1 => ?_
  refine W_pure rfl rfl (po_assign rfl) ?_
  refine W_done ?_
  refine W_seq ?_
  refine W_region rfl ?_
  refine W_pure rfl rfl (po_fieldAddr (ev_t rfl (by (conv => lhs; whnf) <;> rfl)) F30_0 T3 (by (conv => lhs; whnf) <;> rfl)) ?_
  refine W_pure rfl rfl (po_load (i := 0) (ev_t rfl (by (conv => lhs; whnf) <;> rfl)) K3 A3 rfl rfl) ?_
  refine W_pureD rfl rfl (po_sliceD rfl U31 Z3 T3 rfl (evp_cons (ev_t rfl (by (conv => lhs; whnf) <;> rfl)) evp_nil) rfl (by first | rfl | simp [vcells]) (by simp [listSet]; rfl)) ?_
  refine W_call rfl rfl rfl rfl rfl (evl_cons rfl (evl_cons rfl (evl_cons (ev_t rfl (by (conv => lhs; whnf) <;> rfl)) evl_nil))) (fun σ hz => c34 2 10 [of] (vl := .sl .full [int of]) SlOf.sl (by simp) σ) ?_
  refine W_known 6 true (by (conv => lhs; whnf) <;> rfl) (by rw [inside_one (by omega)]) ?_
  refine W_pure rfl rfl (po_move (ev_t rfl (by (conv => lhs; whnf) <;> rfl))) ?_
  refine W_yes rfl rfl rfl rfl rfl rfl (po_fieldAddr (ev_t rfl (by (conv => lhs; whnf) <;> rfl)) F30_0 T3 (by (conv => lhs; whnf) <;> rfl)) ?_
  refine W_yes rfl rfl rfl rfl rfl rfl (po_load (i := 0) (ev_t rfl (by (conv => lhs; whnf) <;> rfl)) K3 A3 rfl rfl) ?_
  refine W_yes rfl rfl rfl rfl rfl rfl (po_fieldAddr (ev_t rfl (by (conv => lhs; whnf) <;> rfl)) F30_1 T3 (by (conv => lhs; whnf) <;> rfl)) ?_
  refine W_yes rfl rfl rfl rfl rfl rfl (po_load (i := 0) (ev_t rfl (by (conv => lhs; whnf) <;> rfl)) K3 A3 rfl rfl) ?_
  refine W_yesD rfl rfl rfl rfl rfl rfl (po_sliceD rfl U31 Z3 T3 rfl (evp_cons (ev_t rfl (by (conv => lhs; whnf) <;> rfl)) evp_nil) rfl (by first | rfl | simp [vcells]) (by simp [listSet]; rfl)) ?_
  refine W_yesCall rfl rfl rfl rfl rfl rfl rfl rfl rfl (evl_cons rfl (evl_cons (ev_t rfl (by (conv => lhs; whnf) <;> rfl)) (evl_cons (ev_t rfl (by (conv => lhs; whnf) <;> rfl)) evl_nil))) (fun σ hz => c34 0 of [high] (vl := .sl .full [int high]) SlOf.sl (by simp) σ) ?_
  refine W_pure rfl rfl (po_pickT (ev_t rfl (by (conv => lhs; whnf) <;> rfl)) (ev_t rfl (by (conv => lhs; whnf) <;> rfl))) ?_
  refine W_pure rfl rfl (po_assign (ev_t rfl (by (conv => lhs; whnf) <;> rfl))) ?_
  refine W_done ?_
  exact W_ret fun fr σ' hf hz => ends_of (.inr rfl) hf hz rfl (show resOf _ _ _ _ _ from ⟨_, _, rfl, ev_t rfl (by (conv => lhs; whnf) <;> rfl), rfl⟩) rfl fun τ hz2 => by clear hf hz; simp [packV, Ev.freeze, inside_one (lo := 0) (hi := of) (n := high) (by omega)]

theorem c35 (of high n : Int) (h : 2 ≤ of ∧ of ≤ 10 ∧ 0 ≤ high ∧ high ≤ of) (hn : 0 ≤ n ∧ n ≤ 1000000) (σ : St) : Run TC (.app false (.func (.func 35) [] []) [.agg [int of, int high], int n]) σ (.val (int (breaks of high n))) σ := by
  have hb := breaks_le h hn.1
  have h1 : 0 ≤ n / of := Int.ediv_nonneg hn.1 (by omega)
  have h2 : 0 ≤ n / of * high := Int.mul_nonneg h1 (by omega)
  have h3 : 0 ≤ n % of := Int.emod_nonneg n (by omega)
  have h4 : n / of * high ≤ breaks of high n := by unfold breaks; split <;> omega
  have h5 : (if high < n % of then high else n % of) ≤ 1000000 := by (unfold breaks at hb; split at hb <;> rename_i h <;> simp [h] <;> omega)
  have h6 : 0 ≤ (if high < n % of then high else n % of) := by split <;> omega
  have h7 : (if n % of > high then high else n % of) = (if high < n % of then high else n % of) := rfl
  refine fn_pure (n := 24) (fn := Try.f35) rfl Try.func35 rfl rfl rfl ?_
  refine W_seq ?_
  refine W_region rfl ?_
  refine W_box rfl rfl rfl (ev_t rfl (by (conv => lhs; whnf) <;> rfl)) (by first | exact vcells_gr | exact vcells_rd | exact (SlOf.cells (by assumption)).1 | ((conv => lhs; whnf) <;> rfl)) fun b2 hb2 => ?_
  refine W_pure rfl rfl (po_assign rfl) ?_
  refine W_done ?_
  refine W_seq ?_
  refine W_drawI (cs := []) (gl := [0, 1, 2, 3, 4, 5, 6, 7, 8, 9, 10, 11, 12, 13, 14, 15, 16, 17, 18, 19]) [] (by simp only [zdrop, List.any_cons, List.any_nil, Nat.beq, Bool.or_false, cond_true, cond_false]; exact rfl) rfl rfl ?_
  refine DE_pureW (.cons_cons _ .slnil) (want_none rfl) rfl (po_move (ev_t rfl (by (conv => lhs; whnf) <;> rfl))) ?_
  refine DE_pureW (.cons_cons _ .slnil) (want_none rfl) rfl (po_fieldAddr (ev_t rfl (by (conv => lhs; whnf) <;> rfl)) F114_0 T30 (by (conv => lhs; whnf) <;> rfl)) ?_
  refine DE_pureW (.cons_cons _ .slnil) (want_none rfl) rfl (po_fieldAddr (ev_t rfl (by (conv => lhs; whnf) <;> rfl)) F30_0 T3 (by (conv => lhs; whnf) <;> rfl)) ?_
  refine DE_pureW (.cons_cons _ .slnil) (want_none rfl) rfl (po_load (i := 0) (ev_t rfl (by (conv => lhs; whnf) <;> rfl)) K3 A3 rfl rfl) ?_
  refine DE_pureW (.cons_cons _ .slnil) (want_none rfl) rfl (po_quo (ev_t rfl (by (conv => lhs; whnf) <;> rfl)) (ev_t rfl (by (conv => lhs; whnf) <;> rfl)) (by first | omega | (simp only [List.length_map, List.length_append, List.length_cons, List.length_nil] at *; omega)) (by first | omega | (simp only [List.length_map, List.length_append, List.length_cons, List.length_nil] at *; omega)) (by first | omega | (simp only [List.length_map, List.length_append, List.length_cons, List.length_nil] at *; omega))) ?_
  refine DE_pureW (.cons_cons _ .slnil) (want_none rfl) rfl (po_fieldAddr (ev_t rfl (by (conv => lhs; whnf) <;> rfl)) F114_0 T30 (by (conv => lhs; whnf) <;> rfl)) ?_
  refine DE_pureW (.cons_cons _ .slnil) (want_none rfl) rfl (po_fieldAddr (ev_t rfl (by (conv => lhs; whnf) <;> rfl)) F30_1 T3 (by (conv => lhs; whnf) <;> rfl)) ?_
  refine DE_pureW (.cons_cons _ .slnil) (want_none rfl) rfl (po_load (i := 0) (ev_t rfl (by (conv => lhs; whnf) <;> rfl)) K3 A3 rfl rfl) ?_
  refine DE_pureW (.cons_cons _ .slnil) (want_none rfl) rfl (po_mul (ev_t rfl (by (conv => lhs; whnf) <;> rfl)) (ev_t rfl (by (conv => lhs; whnf) <;> rfl)) (by first | omega | (simp only [List.length_map, List.length_append, List.length_cons, List.length_nil] at *; omega))) ?_
  refine DE_pureW (.cons_cons _ .slnil) (want_none rfl) rfl (po_move (ev_t rfl (by (conv => lhs; whnf) <;> rfl))) ?_
  refine DE_pureW (.cons_cons _ .slnil) (want_none rfl) rfl (po_fieldAddr (ev_t rfl (by (conv => lhs; whnf) <;> rfl)) F114_0 T30 (by (conv => lhs; whnf) <;> rfl)) ?_
  refine DE_pureW (.cons_cons _ .slnil) (want_none rfl) rfl (po_fieldAddr (ev_t rfl (by (conv => lhs; whnf) <;> rfl)) F30_0 T3 (by (conv => lhs; whnf) <;> rfl)) ?_
  refine DE_pureW (.cons_cons _ .slnil) (want_none rfl) rfl (po_load (i := 0) (ev_t rfl (by (conv => lhs; whnf) <;> rfl)) K3 A3 rfl rfl) ?_
  refine DE_pureW (.cons_cons _ .slnil) (want_none rfl) rfl (po_rem (ev_t rfl (by (conv => lhs; whnf) <;> rfl)) (ev_t rfl (by (conv => lhs; whnf) <;> rfl)) (by first | omega | (simp only [List.length_map, List.length_append, List.length_cons, List.length_nil] at *; omega)) (by first | omega | (simp only [List.length_map, List.length_append, List.length_cons, List.length_nil] at *; omega))) ?_
  refine DE_pureW (.cons_cons _ .slnil) (want_none rfl) rfl (po_fieldAddr (ev_t rfl (by (conv => lhs; whnf) <;> rfl)) F114_0 T30 (by (conv => lhs; whnf) <;> rfl)) ?_
  refine DE_pureW (.cons_cons _ .slnil) (want_none rfl) rfl (po_fieldAddr (ev_t rfl (by (conv => lhs; whnf) <;> rfl)) F30_1 T3 (by (conv => lhs; whnf) <;> rfl)) ?_
  refine DE_pureW (.cons_cons _ .slnil) (want_none rfl) rfl (po_load (i := 0) (ev_t rfl (by (conv => lhs; whnf) <;> rfl)) K3 A3 rfl rfl) ?_
  refine DE_pureW (.cons_cons _ .slnil) (want_none rfl) rfl (po_min (ev_t rfl (by (conv => lhs; whnf) <;> rfl)) (ev_t rfl (by (conv => lhs; whnf) <;> rfl))) ?_
  refine DE_pureW (.cons_cons _ .slnil) (want_none rfl) rfl (po_add (ev_t rfl (by (conv => lhs; whnf) <;> rfl)) (ev_t rfl (by (conv => lhs; whnf) <;> rfl)) (by first | omega | (simp only [List.length_map, List.length_append, List.length_cons, List.length_nil] at *; omega))) ?_
  refine DE_pureW (.cons_cons _ .slnil) (want_none rfl) rfl (po_assign (ev_t rfl (by (conv => lhs; whnf) <;> rfl))) ?_
  refine DE_nil (.cons_cons _ .slnil) ?_
  exact W_ret fun fr σ' hf hz => ends_of (.inr rfl) hf hz rfl (show resOf _ _ _ _ _ from ⟨_, _, rfl, ev_t rfl (by (conv => lhs; whnf) <;> rfl), rfl⟩) rfl fun τ hz2 => by clear hf hz; simp [packV, Ev.freeze, breaks]

theorem c8 (of high n : Int) (h : 2 ≤ of ∧ of ≤ 10 ∧ 0 ≤ high ∧ high ≤ of) (hn : 0 ≤ n ∧ n ≤ 1000000) (σ : St) :
    Run TC (.app false (.func (.func 8) [] []) [.agg [int of, int high], int n]) σ (.val (.tup [span (n - breaks of high n, n), int 0])) σ := by
  have hb := breaks_le h hn.1
  refine fn_pure (n := 25) (fn := Try.f8) rfl Try.func8 rfl rfl rfl ?_
  refine W_seq ?_
  refine W_region rfl ?_
  refine W_box rfl rfl rfl (ev_t rfl (by (conv => lhs; whnf) <;> rfl)) (by first | exact vcells_gr | exact vcells_rd | exact (SlOf.cells (by assumption)).1 | ((conv => lhs; whnf) <;> rfl)) fun b2 hb2 => ?_
  refine W_alloc rfl rfl rfl Z33 (fun t h => by cases h) (by (conv => lhs; whnf) <;> rfl) fun b4 hb4 => ?_
  refine W_pure rfl rfl (po_assign rfl) ?_
  refine W_done ?_
  refine W_seq ?_
  refine W_block ?_
  refine W_seq ?_
  refine W_region rfl ?_
  refine W_pure rfl rfl (po_loadA (i := 1) (ev_t rfl (by (conv => lhs; whnf) <;> rfl)) K30 A30 T30 rfl rfl (by simp only [sub]; exact rfl)) ?_
  refine W_call rfl rfl rfl rfl rfl (evl_cons (ev_t rfl (by (conv => lhs; whnf) <;> rfl)) evl_nil) (fun σ hz => c33 of high h σ) ?_
  refine W_pure rfl rfl (po_un (ev_t rfl (by (conv => lhs; whnf) <;> rfl)) (by (conv => lhs; whnf) <;> rfl)) ?_
  refine W_known 9 false (by (conv => lhs; whnf) <;> rfl) (by first | rfl | (congr 1; simp; done) | (congr 1; simp; omega) | (congr 1; simp only [decide_eq_true_eq, decide_eq_false_iff_not, List.length_map]; omega) | (congr 1; simp_all; done) | (congr 1; simp_all; omega)) ?_
  refine W_pure rfl rfl (po_assign (ev_t rfl (by (conv => lhs; whnf) <;> rfl))) ?_
  refine W_done ?_
  refine W_else (ev_t rfl (by (conv => lhs; whnf) <;> rfl)) ?_
  refine W_seq ?_
  refine W_region rfl ?_
  refine W_pure rfl rfl (po_move (ev_t rfl (by (conv => lhs; whnf) <;> rfl))) ?_
  refine W_pureD rfl rfl (po_sliceD rfl U31 Z3 T3 rfl (evp_cons (ev_t rfl (by (conv => lhs; whnf) <;> rfl)) evp_nil) rfl (by first | rfl | simp [vcells]) (by simp [listSet]; rfl)) ?_
  refine W_call rfl rfl rfl rfl rfl (evl_cons rfl (evl_cons rfl (evl_cons (ev_t rfl (by (conv => lhs; whnf) <;> rfl)) evl_nil))) (fun σ hz => c34 0 1000000 [n] (vl := .sl .full [int n]) SlOf.sl (by simp) σ) ?_
  refine W_known 14 true (by (conv => lhs; whnf) <;> rfl) (by rw [inside_one (by omega)]) ?_
  refine W_pure rfl rfl (po_un (ev_t rfl (by (conv => lhs; whnf) <;> rfl)) (by (conv => lhs; whnf) <;> rfl)) ?_
  refine W_pure rfl rfl (po_assign (ev_t rfl (by (conv => lhs; whnf) <;> rfl))) ?_
  refine W_done ?_
  refine W_else (ev_t rfl (by (conv => lhs; whnf) <;> rfl)) ?_
  refine W_skip ?_
  refine W_inB ?_
  refine W_seq ?_
  refine W_region rfl ?_
  refine W_pure rfl rfl (po_move (ev_t rfl (by (conv => lhs; whnf) <;> rfl))) ?_
  refine W_pure rfl rfl (po_loadA (i := 1) (ev_t rfl (by (conv => lhs; whnf) <;> rfl)) K30 A30 T30 rfl rfl (by simp only [sub]; exact rfl)) ?_
  refine W_pure rfl rfl (po_struct (evp_cons (ev_t rfl (by (conv => lhs; whnf) <;> rfl)) evp_nil) Z114 P114 rfl (by simp only [lay, nth, wr, vcells]; exact rfl)) ?_
  refine W_pure rfl rfl (po_move (ev_t rfl (by (conv => lhs; whnf) <;> rfl))) ?_
  refine W_call rfl rfl rfl rfl rfl (evl_cons (ev_t rfl (by (conv => lhs; whnf) <;> rfl)) (evl_cons (ev_t rfl (by (conv => lhs; whnf) <;> rfl)) evl_nil)) (fun σ hz => c35 of high n h hn σ) ?_
  refine W_pure rfl rfl (po_sub (ev_t rfl (by (conv => lhs; whnf) <;> rfl)) (ev_t rfl (by (conv => lhs; whnf) <;> rfl)) (by first | omega | (simp only [List.length_map, List.length_append, List.length_cons, List.length_nil] at *; omega))) ?_
  refine W_pure rfl rfl (po_move (ev_t rfl (by (conv => lhs; whnf) <;> rfl))) ?_
  refine W_pure rfl rfl (po_struct (evp_cons (ev_t rfl (by (conv => lhs; whnf) <;> rfl)) (evp_cons (ev_t rfl (by (conv => lhs; whnf) <;> rfl)) evp_nil)) Z33 P33 rfl (by simp only [lay, nth, wr, vcells]; exact rfl)) ?_
  refine W_store (i := 0) rfl rfl rfl (ev_t rfl (by (conv => lhs; whnf) <;> rfl)) (ev_t rfl (by (conv => lhs; whnf) <;> rfl)) rfl (by first | exact vcells_gr | exact vcells_rd | exact (SlOf.cells (by assumption)).1 | ((conv => lhs; whnf) <;> rfl)) T33 rfl rfl (by first | rfl | (simp; done) | (simp [cellOK]; done)) (by simp only [wr]; exact rfl) (by simp only [zset]; exact rfl) ?_
  refine W_pure rfl rfl (po_assign rfl) ?_
  refine W_done ?_
  exact W_ret fun fr σ' hf hz => ends_of (.inr rfl) hf hz rfl (show resOf _ _ _ _ _ from ⟨_, _, rfl, po_loadA (i := 0) (ev_t rfl (by (conv => lhs; whnf) <;> rfl)) K33 A33 T33 rfl rfl (by simp only [sub]; exact rfl), ⟨_, _, rfl, ev_t rfl (by (conv => lhs; whnf) <;> rfl), rfl⟩⟩) rfl fun τ hz2 => by clear hf hz; simp [packV, Ev.freeze, Ev.freeze.frL]

end Go.Proofs

set_option linter.unusedVariables false
set_option linter.unusedSimpArgs false
set_option maxRecDepth 10000
namespace Go.Proofs
open Go Go.Ev TryT


/-! ### round.Check -/
structure Pl where
  ready : Int
  due : Int
  stop : Int
  brought : Int
  fetched : Int
abbrev place (p : Pl) : V := .agg [int p.ready, int p.due, int p.stop, int p.brought, int p.fetched]
structure Tsk where
  minutes : List (List (Int × Int))
  places : List Pl
  holds : Int
  leaves : Int
  back : Int
/-- Rows of spans. -/
def RowsOf (vm : V) (mm : List (List (Int × Int))) : Prop := ∃ rs : List V, SlOf vm rs ∧ rs.length = mm.length ∧ ∀ (i : Nat) r row, rs[i]? = some r → mm[i]? = some row → SlOf r (row.map span)
abbrev taskV (t : Tsk) (vm vp : V) : V := .agg [vm, vp, int t.holds, int t.leaves, int t.back]
structure TaskV (t : Tsk) (vm vp : V) : Prop where
  rows : RowsOf vm t.minutes
  places : SlOf vp (t.places.map place)
  sm : Still TC.P vm
  sp : Still TC.P vp
theorem TaskV.cm {t : Tsk} {vm vp : V} (h : TaskV t vm vp) : cellOK vm = true := by obtain ⟨rs, h1, -⟩ := h.rows; exact h1.cells.2
theorem TaskV.cp {t : Tsk} {vm vp : V} (h : TaskV t vm vp) : cellOK vp = true := h.places.cells.2
theorem TaskV.fm {t : Tsk} {vm vp : V} (h : TaskV t vm vp) (n : Nat) (σ : St) (d : Nat) : Ev.freeze TC.P n σ d vm = some vm := h.sm n σ d
theorem TaskV.fp {t : Tsk} {vm vp : V} (h : TaskV t vm vp) (n : Nat) (σ : St) (d : Nat) : Ev.freeze TC.P n σ d vp = some vp := h.sp n σ d
def okSpan (s : Int × Int) : Prop := 0 ≤ s.1 ∧ s.1 ≤ s.2 ∧ s.2 ≤ 600
def okPlace (p : Pl) : Prop := 0 ≤ p.ready ∧ p.ready ≤ 5000 ∧ 0 ≤ p.due ∧ p.due ≤ 5000 ∧ 0 ≤ p.stop ∧ p.stop ≤ 600 ∧ 0 ≤ p.brought ∧ p.brought ≤ 100 ∧ 0 ≤ p.fetched ∧ p.fetched ≤ 100
structure OkBody (t : Tsk) : Prop where
  many : t.places.length ≤ 7
  len : t.minutes.length = t.places.length + 1
  row : ∀ row ∈ t.minutes, row.length = t.places.length + 1
  span : ∀ row ∈ t.minutes, ∀ s ∈ row, okSpan s
  diag : ∀ (i : Nat) row, t.minutes[i]? = some row → row[i]? = some (0, 0)
  place : ∀ p ∈ t.places, okPlace p
structure OkTask (t : Tsk) : Prop extends OkBody t where
  hold : 0 ≤ t.holds ∧ t.holds ≤ 1000
  time : 0 ≤ t.leaves ∧ t.leaves ≤ t.back ∧ t.back ≤ 5000

theorem c151 (n : Int) (b : Nat) (r : V) (xs : List V) (hr : SlOf r xs) (σ : St) (h1 : σ[b]? = some (.cells 3 [int n])) :
    Run TC (.app false (.func (.func 151) [] [.ptr b 0]) [r]) σ (.val (.bool ((xs.length : Int) != n))) σ := by
  refine fn_pure (n := 8) (fn := Try.f151) rfl Try.func151 rfl rfl rfl ?_
  refine W_seq ?_
  refine W_region rfl ?_
  refine W_pure rfl rfl (po_assign rfl) ?_
  refine W_done ?_
  refine W_seq ?_
  refine W_region rfl ?_
  refine W_pure rfl rfl (po_move (ev_t rfl (by (conv => lhs; whnf) <;> rfl))) ?_
  refine W_pure rfl rfl (po_lenS rfl U51 (ev_t rfl (by (conv => lhs; whnf) <;> rfl)) (by first | exact SlOf.sl | exact SlOf.gr | exact SlOf.rd | exact SlOf.nil | assumption)) ?_
  refine W_pure rfl rfl (po_loadO (ev_t rfl (by (conv => lhs; whnf) <;> rfl)) K3 A3 h1 (by simp) rfl) ?_
  refine W_pure rfl rfl (po_bin (ev_t rfl (by (conv => lhs; whnf) <;> rfl)) (ev_t rfl (by (conv => lhs; whnf) <;> rfl)) (by (conv => lhs; whnf) <;> rfl)) ?_
  refine W_pure rfl rfl (po_assign (ev_t rfl (by (conv => lhs; whnf) <;> rfl))) ?_
  refine W_done ?_
  exact W_ret fun fr σ' hf hz => ends_of (.inr rfl) hf hz rfl (show resOf _ _ _ _ _ from ⟨_, _, rfl, ev_t rfl (by (conv => lhs; whnf) <;> rfl), rfl⟩) rfl fun τ hz2 => by clear hf hz; simp [packV, Ev.freeze]

theorem c153 (a b : Int) (h : okSpan (a, b)) (σ : St) : Run TC (.app false (.func (.func 153) [] []) [.agg [int a, int b]]) σ (.val (.bool false)) σ := by
  have hh : 0 ≤ a ∧ a ≤ b ∧ b ≤ 600 := h
  refine fn_pure (n := 17) (fn := Try.f153) rfl Try.func153 rfl rfl rfl ?_
  refine W_seq ?_
  refine W_region rfl ?_
  refine W_box rfl rfl rfl (ev_t rfl (by (conv => lhs; whnf) <;> rfl)) (by first | exact vcells_gr | exact vcells_rd | exact (SlOf.cells (by assumption)).1 | ((conv => lhs; whnf) <;> rfl)) fun b1 hb1 => ?_
  refine W_pure rfl rfl (po_assign rfl) ?_
  refine W_done ?_
  refine W_seq ?_
  refine W_region rfl ?_
  refine W_pure rfl rfl (po_fieldAddr (ev_t rfl (by (conv => lhs; whnf) <;> rfl)) F33_0 T3 (by (conv => lhs; whnf) <;> rfl)) ?_
  refine W_pure rfl rfl (po_load (i := 0) (ev_t rfl (by (conv => lhs; whnf) <;> rfl)) K3 A3 rfl rfl) ?_
  refine W_pure rfl rfl (po_fieldAddr (ev_t rfl (by (conv => lhs; whnf) <;> rfl)) F33_1 T3 (by (conv => lhs; whnf) <;> rfl)) ?_
  refine W_pure rfl rfl (po_load (i := 0) (ev_t rfl (by (conv => lhs; whnf) <;> rfl)) K3 A3 rfl rfl) ?_
  refine W_pure rfl rfl (po_bin (ev_t rfl (by (conv => lhs; whnf) <;> rfl)) (ev_t rfl (by (conv => lhs; whnf) <;> rfl)) (by (conv => lhs; whnf) <;> rfl)) ?_
  refine W_known 7 false (by (conv => lhs; whnf) <;> rfl) (by first | rfl | (congr 1; simp; done) | (congr 1; simp; omega) | (congr 1; simp only [decide_eq_true_eq, decide_eq_false_iff_not, List.length_map]; omega) | (congr 1; simp_all; done) | (congr 1; simp_all; omega)) ?_
  refine W_pure rfl rfl (po_move (ev_t rfl (by (conv => lhs; whnf) <;> rfl))) ?_
  refine W_yes rfl rfl rfl rfl rfl rfl (po_fieldAddr (ev_t rfl (by (conv => lhs; whnf) <;> rfl)) F33_0 T3 (by (conv => lhs; whnf) <;> rfl)) ?_
  refine W_yes rfl rfl rfl rfl rfl rfl (po_load (i := 0) (ev_t rfl (by (conv => lhs; whnf) <;> rfl)) K3 A3 rfl rfl) ?_
  refine W_yes rfl rfl rfl rfl rfl rfl (po_fieldAddr (ev_t rfl (by (conv => lhs; whnf) <;> rfl)) F33_1 T3 (by (conv => lhs; whnf) <;> rfl)) ?_
  refine W_yes rfl rfl rfl rfl rfl rfl (po_load (i := 0) (ev_t rfl (by (conv => lhs; whnf) <;> rfl)) K3 A3 rfl rfl) ?_
  refine W_yesD rfl rfl rfl rfl rfl rfl (po_sliceD rfl U31 Z3 T3 rfl (evp_cons (ev_t rfl (by (conv => lhs; whnf) <;> rfl)) (evp_cons (ev_t rfl (by (conv => lhs; whnf) <;> rfl)) evp_nil)) rfl (by first | rfl | simp [vcells]) (by simp [listSet]; rfl)) ?_
  refine W_yesCall rfl rfl rfl rfl rfl rfl rfl rfl rfl (evl_cons rfl (evl_cons rfl (evl_cons (ev_t rfl (by (conv => lhs; whnf) <;> rfl)) evl_nil))) (fun σ hz => c83 0 600 [a, b] (vl := .sl .full [int a, int b]) SlOf.sl (by simp) σ) ?_
  refine W_yes rfl rfl rfl rfl rfl rfl (po_un (ev_t rfl (by (conv => lhs; whnf) <;> rfl)) (by (conv => lhs; whnf) <;> rfl)) ?_
  refine W_pure rfl rfl (po_pickF (ev_t rfl (by (conv => lhs; whnf) <;> rfl)) (ev_t rfl (by (conv => lhs; whnf) <;> rfl))) ?_
  refine W_pure rfl rfl (po_assign (ev_t rfl (by (conv => lhs; whnf) <;> rfl))) ?_
  refine W_done ?_
  exact W_ret fun fr σ' hf hz => ends_of (.inr rfl) hf hz rfl (show resOf _ _ _ _ _ from ⟨_, _, rfl, ev_t rfl (by (conv => lhs; whnf) <;> rfl), rfl⟩) rfl fun τ hz2 => by clear hf hz; simp [packV, Ev.freeze, inside_two (lo := 0) (hi := 600) (a := a) (b := b) (by omega)]

theorem c154 (p : Pl) (h : okPlace p) (σ : St) : Run TC (.app false (.func (.func 154) [] []) [place p]) σ (.val (.bool false)) σ := by
  have hh : 0 ≤ p.ready ∧ p.ready ≤ 5000 ∧ 0 ≤ p.due ∧ p.due ≤ 5000 ∧ 0 ≤ p.stop ∧ p.stop ≤ 600 ∧ 0 ≤ p.brought ∧ p.brought ≤ 100 ∧ 0 ≤ p.fetched ∧ p.fetched ≤ 100 := h
  refine fn_pure (n := 26) (fn := Try.f154) rfl Try.func154 rfl rfl rfl ?_
  refine W_seq ?_
  refine W_region rfl ?_
  refine W_box rfl rfl rfl (ev_t rfl (by (conv => lhs; whnf) <;> rfl)) (by first | exact vcells_gr | exact vcells_rd | exact (SlOf.cells (by assumption)).1 | ((conv => lhs; whnf) <;> rfl)) fun b1 hb1 => ?_
  refine W_pure rfl rfl (po_assign rfl) ?_
  refine W_done ?_
  refine W_seq ?_
  refine W_region rfl ?_
  refine W_pure rfl rfl (po_fieldAddr (ev_t rfl (by (conv => lhs; whnf) <;> rfl)) F117_0 T3 (by (conv => lhs; whnf) <;> rfl)) ?_
  refine W_pure rfl rfl (po_load (i := 0) (ev_t rfl (by (conv => lhs; whnf) <;> rfl)) K3 A3 rfl rfl) ?_
  refine W_pure rfl rfl (po_fieldAddr (ev_t rfl (by (conv => lhs; whnf) <;> rfl)) F117_1 T3 (by (conv => lhs; whnf) <;> rfl)) ?_
  refine W_pure rfl rfl (po_load (i := 0) (ev_t rfl (by (conv => lhs; whnf) <;> rfl)) K3 A3 rfl rfl) ?_
  refine W_pureD rfl rfl (po_sliceD rfl U31 Z3 T3 rfl (evp_cons (ev_t rfl (by (conv => lhs; whnf) <;> rfl)) (evp_cons (ev_t rfl (by (conv => lhs; whnf) <;> rfl)) evp_nil)) rfl (by first | rfl | simp [vcells]) (by simp [listSet]; rfl)) ?_
  refine W_call rfl rfl rfl rfl rfl (evl_cons rfl (evl_cons rfl (evl_cons (ev_t rfl (by (conv => lhs; whnf) <;> rfl)) evl_nil))) (fun σ hz => c83 0 5000 [p.ready, p.due] (vl := .sl .full [int p.ready, int p.due]) SlOf.sl (by simp) σ) ?_
  refine W_pure rfl rfl (po_un (ev_t rfl (by (conv => lhs; whnf) <;> rfl)) (by (conv => lhs; whnf) <;> rfl)) ?_
  refine W_known 9 false (by (conv => lhs; whnf) <;> rfl) (by rw [inside_two (by omega)]; rfl) ?_
  refine W_pure rfl rfl (po_move (ev_t rfl (by (conv => lhs; whnf) <;> rfl))) ?_
  refine W_yes rfl rfl rfl rfl rfl rfl (po_fieldAddr (ev_t rfl (by (conv => lhs; whnf) <;> rfl)) F117_2 T3 (by (conv => lhs; whnf) <;> rfl)) ?_
  refine W_yes rfl rfl rfl rfl rfl rfl (po_load (i := 0) (ev_t rfl (by (conv => lhs; whnf) <;> rfl)) K3 A3 rfl rfl) ?_
  refine W_yesD rfl rfl rfl rfl rfl rfl (po_sliceD rfl U31 Z3 T3 rfl (evp_cons (ev_t rfl (by (conv => lhs; whnf) <;> rfl)) evp_nil) rfl (by first | rfl | simp [vcells]) (by simp [listSet]; rfl)) ?_
  refine W_yesCall rfl rfl rfl rfl rfl rfl rfl rfl rfl (evl_cons rfl (evl_cons rfl (evl_cons (ev_t rfl (by (conv => lhs; whnf) <;> rfl)) evl_nil))) (fun σ hz => c83 0 600 [p.stop] (vl := .sl .full [int p.stop]) SlOf.sl (by simp) σ) ?_
  refine W_yes rfl rfl rfl rfl rfl rfl (po_un (ev_t rfl (by (conv => lhs; whnf) <;> rfl)) (by (conv => lhs; whnf) <;> rfl)) ?_
  refine W_pure rfl rfl (po_pickF (ev_t rfl (by (conv => lhs; whnf) <;> rfl)) (ev_t rfl (by (conv => lhs; whnf) <;> rfl))) ?_
  refine W_known 16 false (by (conv => lhs; whnf) <;> rfl) (by rw [inside_one (by omega)]; rfl) ?_
  refine W_pure rfl rfl (po_move (ev_t rfl (by (conv => lhs; whnf) <;> rfl))) ?_
  refine W_yes rfl rfl rfl rfl rfl rfl (po_fieldAddr (ev_t rfl (by (conv => lhs; whnf) <;> rfl)) F117_3 T3 (by (conv => lhs; whnf) <;> rfl)) ?_
  refine W_yes rfl rfl rfl rfl rfl rfl (po_load (i := 0) (ev_t rfl (by (conv => lhs; whnf) <;> rfl)) K3 A3 rfl rfl) ?_
  refine W_yes rfl rfl rfl rfl rfl rfl (po_fieldAddr (ev_t rfl (by (conv => lhs; whnf) <;> rfl)) F117_4 T3 (by (conv => lhs; whnf) <;> rfl)) ?_
  refine W_yes rfl rfl rfl rfl rfl rfl (po_load (i := 0) (ev_t rfl (by (conv => lhs; whnf) <;> rfl)) K3 A3 rfl rfl) ?_
  refine W_yesD rfl rfl rfl rfl rfl rfl (po_sliceD rfl U31 Z3 T3 rfl (evp_cons (ev_t rfl (by (conv => lhs; whnf) <;> rfl)) (evp_cons (ev_t rfl (by (conv => lhs; whnf) <;> rfl)) evp_nil)) rfl (by first | rfl | simp [vcells]) (by simp [listSet]; rfl)) ?_
  refine W_yesCall rfl rfl rfl rfl rfl rfl rfl rfl rfl (evl_cons rfl (evl_cons rfl (evl_cons (ev_t rfl (by (conv => lhs; whnf) <;> rfl)) evl_nil))) (fun σ hz => c83 0 100 [p.brought, p.fetched] (vl := .sl .full [int p.brought, int p.fetched]) SlOf.sl (by simp) σ) ?_
  refine W_yes rfl rfl rfl rfl rfl rfl (po_un (ev_t rfl (by (conv => lhs; whnf) <;> rfl)) (by (conv => lhs; whnf) <;> rfl)) ?_
  refine W_pure rfl rfl (po_pickF (ev_t rfl (by (conv => lhs; whnf) <;> rfl)) (ev_t rfl (by (conv => lhs; whnf) <;> rfl))) ?_
  refine W_pure rfl rfl (po_assign (ev_t rfl (by (conv => lhs; whnf) <;> rfl))) ?_
  refine W_done ?_
  exact W_ret fun fr σ' hf hz => ends_of (.inr rfl) hf hz rfl (show resOf _ _ _ _ _ from ⟨_, _, rfl, ev_t rfl (by (conv => lhs; whnf) <;> rfl), rfl⟩) rfl fun τ hz2 => by clear hf hz; simp [packV, Ev.freeze, inside_two (lo := 0) (hi := 100) (a := p.brought) (b := p.fetched) (by omega)]

theorem c159 {fv vl : V} {p : Int × Int → Bool} {l : List (Int × Int)} {σ : St} (hl : SlOf vl (l.map span)) (hp : ∀ x ∈ l, ∀ σ', Ext σ σ' → Run TC (.app false fv [span x]) σ' (.val (.bool (p x))) σ') (hlen : l.length ≤ 4611686018427387904) :
    Run TC (.app false (.func (.func 159) [] []) [vl, fv]) σ (.val (int (idxOf p l))) σ := by
  refine fn_pure (n := 19) (fn := Try.f159) rfl Try.func159 rfl rfl rfl ?_
  refine W_seq ?_
  refine W_region rfl ?_
  refine W_pure rfl rfl (po_assign rfl) ?_
  refine W_done ?_
  refine W_seq ?_
  refine W_seq ?_
  refine W_region rfl ?_
  refine W_pure rfl rfl (po_move (ev_t rfl (by (conv => lhs; whnf) <;> rfl))) ?_
  refine W_pure rfl rfl (po_lenS rfl U51 (ev_t rfl (by (conv => lhs; whnf) <;> rfl)) (by first | exact SlOf.sl | exact SlOf.gr | exact SlOf.rd | exact SlOf.nil | assumption)) ?_
  refine W_pure rfl rfl (po_move rfl) ?_
  refine W_done ?_
  refine W_block ?_
  refine W_loopI (S := Nat) (fun i => [(8, int i)]) [] (fun i => []) (fun i => i ≤ l.length ∧ ∀ m y, m < i → l[m]? = some y → p y = false) (fun i => l.length - i) (0) (AE 0 (by (conv => lhs; whnf) <;> rfl) (AE 1 (by (conv => lhs; whnf) <;> rfl) (AE 4 (by (conv => lhs; whnf) <;> rfl) (AE 7 (by (conv => lhs; whnf) <;> rfl) AE_nil)))) (AE 8 (Eq.trans (by (conv => lhs; whnf) <;> rfl) (by first | rfl | (simp; done) | (simp; omega))) AE_nil) rfl (⟨Nat.zero_le _, fun m y hm => by omega⟩) ?_
  rintro i j0 hI0 ih0
  obtain ⟨hi, hb⟩ := hI0
  refine W_eqZ (by simp only [zsets, zset]; exact rfl) ?_
  refine W_seq ?_
  refine W_region rfl ?_
  refine W_pure rfl rfl (po_bin (ev_t rfl (by (conv => lhs; whnf) <;> rfl)) (ev_t rfl (by (conv => lhs; whnf) <;> rfl)) (by (conv => lhs; whnf) <;> rfl)) ?_
  refine W_done ?_
  refine W_seq ?_
  refine W_if (ev_t rfl (by (conv => lhs; whnf) <;> rfl)) (fun g0 => ?_) (fun g0 => ?_)
  · (try simp only [decide_eq_true_eq, decide_eq_false_iff_not, beq_iff_eq, beq_eq_false_iff_ne, bne_iff_ne, ne_eq, bne_eq_false_iff_eq, Bool.not_eq_true', Bool.not_eq_false', Bool.not_eq_true, Bool.not_eq_false, Bool.not_false, Bool.not_true, not_lt, not_le, Int.not_lt, Int.not_le, Decidable.not_not] at g0); (try simp at g0)
    have hlt : i < l.length := by omega
    obtain ⟨x, hx⟩ : ∃ x, l[i]? = some x := ⟨_, List.getElem?_eq_getElem hlt⟩
    refine W_skip ?_
    refine W_seq ?_
    refine W_block ?_
    refine W_seq ?_
    refine W_region rfl ?_
    refine W_pure rfl rfl (po_move (ev_t rfl (by (conv => lhs; whnf) <;> rfl))) ?_
    refine W_pure rfl rfl (po_assign (ev_t rfl (by (conv => lhs; whnf) <;> rfl))) ?_
    refine W_done ?_
    refine W_seq ?_
    refine W_region rfl ?_
    refine W_pure rfl rfl (po_move (ev_t rfl (by (conv => lhs; whnf) <;> rfl))) ?_
    refine W_pure rfl rfl (po_move (ev_t rfl (by (conv => lhs; whnf) <;> rfl))) ?_
    refine W_pure rfl rfl (po_move (ev_t rfl (by (conv => lhs; whnf) <;> rfl))) ?_
    refine W_pure rfl rfl (po_indexAddrS U51 T33 (ev_t rfl (by (conv => lhs; whnf) <;> rfl)) (by first | exact SlOf.sl | exact SlOf.gr | exact SlOf.rd | exact SlOf.nil | assumption) (ev_t rfl (by (conv => lhs; whnf) <;> rfl)) (by first | omega | (simp only [List.length_map, List.length_append, List.length_cons, List.length_nil] at *; omega)) (show _ = some (span x) by simp [hx]) (by first | exact vcells_gr | exact vcells_rd | exact (SlOf.cells (by assumption)).1 | ((conv => lhs; whnf) <;> rfl)) rfl) ?_
    refine W_pure rfl rfl (po_loadRA (ev_t rfl (by (conv => lhs; whnf) <;> rfl)) K33 A33 T33 rfl (by simp only [sub]; exact rfl)) ?_
    refine W_call rfl rfl rfl rfl (ev_t rfl (by (conv => lhs; whnf) <;> rfl)) (evl_cons (ev_t rfl (by (conv => lhs; whnf) <;> rfl)) evl_nil) (fun σ hz => hp x (List.mem_of_getElem? hx) σ (ext_of hz rfl)) ?_
    refine W_done ?_
    refine W_if (ev_t rfl (by (conv => lhs; whnf) <;> rfl)) (fun g1 => ?_) (fun g1 => ?_)
    · (try simp only [decide_eq_true_eq, decide_eq_false_iff_not, beq_iff_eq, beq_eq_false_iff_ne, bne_iff_ne, ne_eq, bne_eq_false_iff_eq, Bool.not_eq_true', Bool.not_eq_false', Bool.not_eq_true, Bool.not_eq_false, Bool.not_false, Bool.not_true, not_lt, not_le, Int.not_lt, Int.not_le, Decidable.not_not] at g1); (try simp at g1)
      have he := idx_some hx g1 hb
      refine W_seq ?_
      refine W_region rfl ?_
      refine W_pure rfl rfl (po_move (ev_t rfl (by (conv => lhs; whnf) <;> rfl))) ?_
      refine W_pure rfl rfl (po_assign (ev_t rfl (by (conv => lhs; whnf) <;> rfl))) ?_
      refine W_done ?_
      exact W_ret fun fr σ' hf hz => ends_of (.inr rfl) hf hz rfl (show resOf _ _ _ _ _ from ⟨_, _, rfl, ev_t rfl (by (conv => lhs; whnf) <;> rfl), rfl⟩) rfl fun τ hz2 => by clear hf hz; simp_all [packV, Ev.freeze]
    · (try simp only [decide_eq_true_eq, decide_eq_false_iff_not, beq_iff_eq, beq_eq_false_iff_ne, bne_iff_ne, ne_eq, bne_eq_false_iff_eq, Bool.not_eq_true', Bool.not_eq_false', Bool.not_eq_true, Bool.not_eq_false, Bool.not_false, Bool.not_true, not_lt, not_le, Int.not_lt, Int.not_le, Decidable.not_not] at g1); (try simp at g1)
      refine W_skip ?_
      refine W_inB ?_
      refine W_region rfl ?_
      refine W_pure rfl rfl (po_add (ev_t rfl (by (conv => lhs; whnf) <;> rfl)) rfl (by first | omega | (simp only [List.length_map, List.length_append, List.length_cons, List.length_nil] at *; omega))) ?_
      refine W_pure rfl rfl (po_move (ev_t rfl (by (conv => lhs; whnf) <;> rfl))) ?_
      refine W_done ?_
      exact ih0 (i + 1) _ _ (⟨by omega, fun m y hm hy => by rcases Nat.lt_succ_iff_lt_or_eq.1 hm with h | rfl <;> first | exact hb m y h hy | (rw [hx] at hy; cases hy; exact g1)⟩) (by omega) (AE 8 (Eq.trans (by (conv => lhs; whnf) <;> rfl) (by first | rfl | (simp; done) | (simp; omega))) AE_nil) (AE 0 (by (conv => lhs; whnf) <;> rfl) (AE 1 (by (conv => lhs; whnf) <;> rfl) (AE 4 (by (conv => lhs; whnf) <;> rfl) (AE 7 (by (conv => lhs; whnf) <;> rfl) AE_nil)))) rfl
  · (try simp only [decide_eq_true_eq, decide_eq_false_iff_not, beq_iff_eq, beq_eq_false_iff_ne, bne_iff_ne, ne_eq, bne_eq_false_iff_eq, Bool.not_eq_true', Bool.not_eq_false', Bool.not_eq_true, Bool.not_eq_false, Bool.not_false, Bool.not_true, not_lt, not_le, Int.not_lt, Int.not_le, Decidable.not_not] at g0); (try simp at g0)
    have he := idx_none (p := p) (l := l) (fun m y hy => hb m y (by have := (List.getElem?_eq_some_iff.1 hy).1; omega) hy)
    refine W_exit rfl ?_
    refine W_seq ?_
    refine W_region rfl ?_
    refine W_pure rfl rfl (po_assign rfl) ?_
    refine W_done ?_
    exact W_ret fun fr σ' hf hz => ends_of (.inr rfl) hf hz rfl (show resOf _ _ _ _ _ from ⟨_, _, rfl, ev_t rfl (by (conv => lhs; whnf) <;> rfl), rfl⟩) rfl fun τ hz2 => by clear hf hz; simp_all [packV, Ev.freeze]

theorem c125 {fv vl : V} {p : Int × Int → Bool} {l : List (Int × Int)} {σ : St} (hl : SlOf vl (l.map span)) (hp : ∀ x ∈ l, ∀ σ', Ext σ σ' → Run TC (.app false fv [span x]) σ' (.val (.bool (p x))) σ') (hlen : l.length ≤ 4611686018427387904) :
    Run TC (.app false (.func (.func 125) [] []) [vl, fv]) σ (.val (.bool (l.any p))) σ := by
  refine fn_pure (n := 9) (fn := Try.f125) rfl Try.func125 rfl rfl rfl ?_
  refine W_seq ?_
  refine W_region rfl ?_
  refine W_pure rfl rfl (po_assign rfl) ?_
  refine W_done ?_
  refine W_seq ?_
  refine W_region rfl ?_
  refine W_pure rfl rfl (po_move (ev_t rfl (by (conv => lhs; whnf) <;> rfl))) ?_
  refine W_pure rfl rfl (po_move (ev_t rfl (by (conv => lhs; whnf) <;> rfl))) ?_
  refine W_call rfl rfl rfl rfl rfl (evl_cons (ev_t rfl (by (conv => lhs; whnf) <;> rfl)) (evl_cons (ev_t rfl (by (conv => lhs; whnf) <;> rfl)) evl_nil)) (fun σ hz => c159 hl (fun x hx σ' he => hp x hx σ' ((ext_of hz rfl).trans he)) hlen) ?_
  refine W_pure rfl rfl (po_bin (ev_t rfl (by (conv => lhs; whnf) <;> rfl)) rfl (by (conv => lhs; whnf) <;> rfl)) ?_
  refine W_pure rfl rfl (po_assign (ev_t rfl (by (conv => lhs; whnf) <;> rfl))) ?_
  refine W_done ?_
  exact W_ret fun fr σ' hf hz => ends_of (.inr rfl) hf hz rfl (show resOf _ _ _ _ _ from ⟨_, _, rfl, ev_t rfl (by (conv => lhs; whnf) <;> rfl), rfl⟩) rfl fun τ hz2 => by clear hf hz; simp [packV, Ev.freeze, ← idx_any]

theorem c172 {fv vl : V} {p : Pl → Bool} {l : List (Pl)} {σ : St} (hl : SlOf vl (l.map place)) (hp : ∀ x ∈ l, ∀ σ', Ext σ σ' → Run TC (.app false fv [place x]) σ' (.val (.bool (p x))) σ') (hlen : l.length ≤ 4611686018427387904) :
    Run TC (.app false (.func (.func 172) [] []) [vl, fv]) σ (.val (int (idxOf p l))) σ := by
  refine fn_pure (n := 19) (fn := Try.f172) rfl Try.func172 rfl rfl rfl ?_
  refine W_seq ?_
  refine W_region rfl ?_
  refine W_pure rfl rfl (po_assign rfl) ?_
  refine W_done ?_
  refine W_seq ?_
  refine W_seq ?_
  refine W_region rfl ?_
  refine W_pure rfl rfl (po_move (ev_t rfl (by (conv => lhs; whnf) <;> rfl))) ?_
  refine W_pure rfl rfl (po_lenS rfl U38 (ev_t rfl (by (conv => lhs; whnf) <;> rfl)) (by first | exact SlOf.sl | exact SlOf.gr | exact SlOf.rd | exact SlOf.nil | assumption)) ?_
  refine W_pure rfl rfl (po_move rfl) ?_
  refine W_done ?_
  refine W_block ?_
  refine W_loopI (S := Nat) (fun i => [(8, int i)]) [] (fun i => []) (fun i => i ≤ l.length ∧ ∀ m y, m < i → l[m]? = some y → p y = false) (fun i => l.length - i) (0) (AE 0 (by (conv => lhs; whnf) <;> rfl) (AE 1 (by (conv => lhs; whnf) <;> rfl) (AE 4 (by (conv => lhs; whnf) <;> rfl) (AE 7 (by (conv => lhs; whnf) <;> rfl) AE_nil)))) (AE 8 (Eq.trans (by (conv => lhs; whnf) <;> rfl) (by first | rfl | (simp; done) | (simp; omega))) AE_nil) rfl (⟨Nat.zero_le _, fun m y hm => by omega⟩) ?_
  rintro i j0 hI0 ih0
  obtain ⟨hi, hb⟩ := hI0
  refine W_eqZ (by simp only [zsets, zset]; exact rfl) ?_
  refine W_seq ?_
  refine W_region rfl ?_
  refine W_pure rfl rfl (po_bin (ev_t rfl (by (conv => lhs; whnf) <;> rfl)) (ev_t rfl (by (conv => lhs; whnf) <;> rfl)) (by (conv => lhs; whnf) <;> rfl)) ?_
  refine W_done ?_
  refine W_seq ?_
  refine W_if (ev_t rfl (by (conv => lhs; whnf) <;> rfl)) (fun g0 => ?_) (fun g0 => ?_)
  · (try simp only [decide_eq_true_eq, decide_eq_false_iff_not, beq_iff_eq, beq_eq_false_iff_ne, bne_iff_ne, ne_eq, bne_eq_false_iff_eq, Bool.not_eq_true', Bool.not_eq_false', Bool.not_eq_true, Bool.not_eq_false, Bool.not_false, Bool.not_true, not_lt, not_le, Int.not_lt, Int.not_le, Decidable.not_not] at g0); (try simp at g0)
    have hlt : i < l.length := by omega
    obtain ⟨x, hx⟩ : ∃ x, l[i]? = some x := ⟨_, List.getElem?_eq_getElem hlt⟩
    refine W_skip ?_
    refine W_seq ?_
    refine W_block ?_
    refine W_seq ?_
    refine W_region rfl ?_
    refine W_pure rfl rfl (po_move (ev_t rfl (by (conv => lhs; whnf) <;> rfl))) ?_
    refine W_pure rfl rfl (po_assign (ev_t rfl (by (conv => lhs; whnf) <;> rfl))) ?_
    refine W_done ?_
    refine W_seq ?_
    refine W_region rfl ?_
    refine W_pure rfl rfl (po_move (ev_t rfl (by (conv => lhs; whnf) <;> rfl))) ?_
    refine W_pure rfl rfl (po_move (ev_t rfl (by (conv => lhs; whnf) <;> rfl))) ?_
    refine W_pure rfl rfl (po_move (ev_t rfl (by (conv => lhs; whnf) <;> rfl))) ?_
    refine W_pure rfl rfl (po_indexAddrS U38 T117 (ev_t rfl (by (conv => lhs; whnf) <;> rfl)) (by first | exact SlOf.sl | exact SlOf.gr | exact SlOf.rd | exact SlOf.nil | assumption) (ev_t rfl (by (conv => lhs; whnf) <;> rfl)) (by first | omega | (simp only [List.length_map, List.length_append, List.length_cons, List.length_nil] at *; omega)) (show _ = some (place x) by simp [hx]) (by first | exact vcells_gr | exact vcells_rd | exact (SlOf.cells (by assumption)).1 | ((conv => lhs; whnf) <;> rfl)) rfl) ?_
    refine W_pure rfl rfl (po_loadRA (ev_t rfl (by (conv => lhs; whnf) <;> rfl)) K117 A117 T117 rfl (by simp only [sub]; exact rfl)) ?_
    refine W_call rfl rfl rfl rfl (ev_t rfl (by (conv => lhs; whnf) <;> rfl)) (evl_cons (ev_t rfl (by (conv => lhs; whnf) <;> rfl)) evl_nil) (fun σ hz => hp x (List.mem_of_getElem? hx) σ (ext_of hz rfl)) ?_
    refine W_done ?_
    refine W_if (ev_t rfl (by (conv => lhs; whnf) <;> rfl)) (fun g1 => ?_) (fun g1 => ?_)
    · (try simp only [decide_eq_true_eq, decide_eq_false_iff_not, beq_iff_eq, beq_eq_false_iff_ne, bne_iff_ne, ne_eq, bne_eq_false_iff_eq, Bool.not_eq_true', Bool.not_eq_false', Bool.not_eq_true, Bool.not_eq_false, Bool.not_false, Bool.not_true, not_lt, not_le, Int.not_lt, Int.not_le, Decidable.not_not] at g1); (try simp at g1)
      have he := idx_some hx g1 hb
      refine W_seq ?_
      refine W_region rfl ?_
      refine W_pure rfl rfl (po_move (ev_t rfl (by (conv => lhs; whnf) <;> rfl))) ?_
      refine W_pure rfl rfl (po_assign (ev_t rfl (by (conv => lhs; whnf) <;> rfl))) ?_
      refine W_done ?_
      exact W_ret fun fr σ' hf hz => ends_of (.inr rfl) hf hz rfl (show resOf _ _ _ _ _ from ⟨_, _, rfl, ev_t rfl (by (conv => lhs; whnf) <;> rfl), rfl⟩) rfl fun τ hz2 => by clear hf hz; simp_all [packV, Ev.freeze]
    · (try simp only [decide_eq_true_eq, decide_eq_false_iff_not, beq_iff_eq, beq_eq_false_iff_ne, bne_iff_ne, ne_eq, bne_eq_false_iff_eq, Bool.not_eq_true', Bool.not_eq_false', Bool.not_eq_true, Bool.not_eq_false, Bool.not_false, Bool.not_true, not_lt, not_le, Int.not_lt, Int.not_le, Decidable.not_not] at g1); (try simp at g1)
      refine W_skip ?_
      refine W_inB ?_
      refine W_region rfl ?_
      refine W_pure rfl rfl (po_add (ev_t rfl (by (conv => lhs; whnf) <;> rfl)) rfl (by first | omega | (simp only [List.length_map, List.length_append, List.length_cons, List.length_nil] at *; omega))) ?_
      refine W_pure rfl rfl (po_move (ev_t rfl (by (conv => lhs; whnf) <;> rfl))) ?_
      refine W_done ?_
      exact ih0 (i + 1) _ _ (⟨by omega, fun m y hm hy => by rcases Nat.lt_succ_iff_lt_or_eq.1 hm with h | rfl <;> first | exact hb m y h hy | (rw [hx] at hy; cases hy; exact g1)⟩) (by omega) (AE 8 (Eq.trans (by (conv => lhs; whnf) <;> rfl) (by first | rfl | (simp; done) | (simp; omega))) AE_nil) (AE 0 (by (conv => lhs; whnf) <;> rfl) (AE 1 (by (conv => lhs; whnf) <;> rfl) (AE 4 (by (conv => lhs; whnf) <;> rfl) (AE 7 (by (conv => lhs; whnf) <;> rfl) AE_nil)))) rfl
  · (try simp only [decide_eq_true_eq, decide_eq_false_iff_not, beq_iff_eq, beq_eq_false_iff_ne, bne_iff_ne, ne_eq, bne_eq_false_iff_eq, Bool.not_eq_true', Bool.not_eq_false', Bool.not_eq_true, Bool.not_eq_false, Bool.not_false, Bool.not_true, not_lt, not_le, Int.not_lt, Int.not_le, Decidable.not_not] at g0); (try simp at g0)
    have he := idx_none (p := p) (l := l) (fun m y hy => hb m y (by have := (List.getElem?_eq_some_iff.1 hy).1; omega) hy)
    refine W_exit rfl ?_
    refine W_seq ?_
    refine W_region rfl ?_
    refine W_pure rfl rfl (po_assign rfl) ?_
    refine W_done ?_
    exact W_ret fun fr σ' hf hz => ends_of (.inr rfl) hf hz rfl (show resOf _ _ _ _ _ from ⟨_, _, rfl, ev_t rfl (by (conv => lhs; whnf) <;> rfl), rfl⟩) rfl fun τ hz2 => by clear hf hz; simp_all [packV, Ev.freeze]

theorem c155 {fv vl : V} {p : Pl → Bool} {l : List (Pl)} {σ : St} (hl : SlOf vl (l.map place)) (hp : ∀ x ∈ l, ∀ σ', Ext σ σ' → Run TC (.app false fv [place x]) σ' (.val (.bool (p x))) σ') (hlen : l.length ≤ 4611686018427387904) :
    Run TC (.app false (.func (.func 155) [] []) [vl, fv]) σ (.val (.bool (l.any p))) σ := by
  refine fn_pure (n := 9) (fn := Try.f155) rfl Try.func155 rfl rfl rfl ?_
  refine W_seq ?_
  refine W_region rfl ?_
  refine W_pure rfl rfl (po_assign rfl) ?_
  refine W_done ?_
  refine W_seq ?_
  refine W_region rfl ?_
  refine W_pure rfl rfl (po_move (ev_t rfl (by (conv => lhs; whnf) <;> rfl))) ?_
  refine W_pure rfl rfl (po_move (ev_t rfl (by (conv => lhs; whnf) <;> rfl))) ?_
  refine W_call rfl rfl rfl rfl rfl (evl_cons (ev_t rfl (by (conv => lhs; whnf) <;> rfl)) (evl_cons (ev_t rfl (by (conv => lhs; whnf) <;> rfl)) evl_nil)) (fun σ hz => c172 hl (fun x hx σ' he => hp x hx σ' ((ext_of hz rfl).trans he)) hlen) ?_
  refine W_pure rfl rfl (po_bin (ev_t rfl (by (conv => lhs; whnf) <;> rfl)) rfl (by (conv => lhs; whnf) <;> rfl)) ?_
  refine W_pure rfl rfl (po_assign (ev_t rfl (by (conv => lhs; whnf) <;> rfl))) ?_
  refine W_done ?_
  exact W_ret fun fr σ' hf hz => ends_of (.inr rfl) hf hz rfl (show resOf _ _ _ _ _ from ⟨_, _, rfl, ev_t rfl (by (conv => lhs; whnf) <;> rfl), rfl⟩) rfl fun τ hz2 => by clear hf hz; simp [packV, Ev.freeze, ← idx_any]

theorem c171 {fv vl : V} {p : V → Bool} {l : List V} {σ : St} (hl : SlOf vl l) (hc : ∀ x ∈ l, vcells x = [x]) (hp : ∀ x ∈ l, ∀ σ', Ext σ σ' → Run TC (.app false fv [x]) σ' (.val (.bool (p x))) σ') (hlen : l.length ≤ 4611686018427387904) :
    Run TC (.app false (.func (.func 171) [] []) [vl, fv]) σ (.val (int (idxOf p l))) σ := by
  refine fn_pure (n := 19) (fn := Try.f171) rfl Try.func171 rfl rfl rfl ?_
  refine W_seq ?_
  refine W_region rfl ?_
  refine W_pure rfl rfl (po_assign rfl) ?_
  refine W_done ?_
  refine W_seq ?_
  refine W_seq ?_
  refine W_region rfl ?_
  refine W_pure rfl rfl (po_move (ev_t rfl (by (conv => lhs; whnf) <;> rfl))) ?_
  refine W_pure rfl rfl (po_lenS rfl U37 (ev_t rfl (by (conv => lhs; whnf) <;> rfl)) (by first | exact SlOf.sl | exact SlOf.gr | exact SlOf.rd | exact SlOf.nil | assumption)) ?_
  refine W_pure rfl rfl (po_move rfl) ?_
  refine W_done ?_
  refine W_block ?_
  refine W_loopI (S := Nat) (fun i => [(8, int i)]) [] (fun i => []) (fun i => i ≤ l.length ∧ ∀ m y, m < i → l[m]? = some y → p y = false) (fun i => l.length - i) (0) (AE 0 (by (conv => lhs; whnf) <;> rfl) (AE 1 (by (conv => lhs; whnf) <;> rfl) (AE 4 (by (conv => lhs; whnf) <;> rfl) (AE 7 (by (conv => lhs; whnf) <;> rfl) AE_nil)))) (AE 8 (Eq.trans (by (conv => lhs; whnf) <;> rfl) (by first | rfl | (simp; done) | (simp; omega))) AE_nil) rfl (⟨Nat.zero_le _, fun m y hm => by omega⟩) ?_
  rintro i j0 hI0 ih0
  obtain ⟨hi, hb⟩ := hI0
  refine W_eqZ (by simp only [zsets, zset]; exact rfl) ?_
  refine W_seq ?_
  refine W_region rfl ?_
  refine W_pure rfl rfl (po_bin (ev_t rfl (by (conv => lhs; whnf) <;> rfl)) (ev_t rfl (by (conv => lhs; whnf) <;> rfl)) (by (conv => lhs; whnf) <;> rfl)) ?_
  refine W_done ?_
  refine W_seq ?_
  refine W_if (ev_t rfl (by (conv => lhs; whnf) <;> rfl)) (fun g0 => ?_) (fun g0 => ?_)
  · (try simp only [decide_eq_true_eq, decide_eq_false_iff_not, beq_iff_eq, beq_eq_false_iff_ne, bne_iff_ne, ne_eq, bne_eq_false_iff_eq, Bool.not_eq_true', Bool.not_eq_false', Bool.not_eq_true, Bool.not_eq_false, Bool.not_false, Bool.not_true, not_lt, not_le, Int.not_lt, Int.not_le, Decidable.not_not] at g0); (try simp at g0)
    have hlt : i < l.length := by omega
    obtain ⟨x, hx⟩ : ∃ x, l[i]? = some x := ⟨_, List.getElem?_eq_getElem hlt⟩
    refine W_skip ?_
    refine W_seq ?_
    refine W_block ?_
    refine W_seq ?_
    refine W_region rfl ?_
    refine W_pure rfl rfl (po_move (ev_t rfl (by (conv => lhs; whnf) <;> rfl))) ?_
    refine W_pure rfl rfl (po_assign (ev_t rfl (by (conv => lhs; whnf) <;> rfl))) ?_
    refine W_done ?_
    refine W_seq ?_
    refine W_region rfl ?_
    refine W_pure rfl rfl (po_move (ev_t rfl (by (conv => lhs; whnf) <;> rfl))) ?_
    refine W_pure rfl rfl (po_move (ev_t rfl (by (conv => lhs; whnf) <;> rfl))) ?_
    refine W_pure rfl rfl (po_move (ev_t rfl (by (conv => lhs; whnf) <;> rfl))) ?_
    refine W_pure rfl rfl (po_indexAddrS U37 T51 (ev_t rfl (by (conv => lhs; whnf) <;> rfl)) (by first | exact SlOf.sl | exact SlOf.gr | exact SlOf.rd | exact SlOf.nil | assumption) (ev_t rfl (by (conv => lhs; whnf) <;> rfl)) (by first | omega | (simp only [List.length_map, List.length_append, List.length_cons, List.length_nil] at *; omega)) (show _ = some x by simp [hx]) (hc x (List.mem_of_getElem? hx)) rfl) ?_
    refine W_pure rfl rfl (po_loadR (ev_t rfl (by (conv => lhs; whnf) <;> rfl)) K51 A51) ?_
    refine W_call rfl rfl rfl rfl (ev_t rfl (by (conv => lhs; whnf) <;> rfl)) (evl_cons (ev_t rfl (by (conv => lhs; whnf) <;> rfl)) evl_nil) (fun σ hz => hp x (List.mem_of_getElem? hx) σ (ext_of hz rfl)) ?_
    refine W_done ?_
    refine W_if (ev_t rfl (by (conv => lhs; whnf) <;> rfl)) (fun g1 => ?_) (fun g1 => ?_)
    · (try simp only [decide_eq_true_eq, decide_eq_false_iff_not, beq_iff_eq, beq_eq_false_iff_ne, bne_iff_ne, ne_eq, bne_eq_false_iff_eq, Bool.not_eq_true', Bool.not_eq_false', Bool.not_eq_true, Bool.not_eq_false, Bool.not_false, Bool.not_true, not_lt, not_le, Int.not_lt, Int.not_le, Decidable.not_not] at g1); (try simp at g1)
      have he := idx_some hx g1 hb
      refine W_seq ?_
      refine W_region rfl ?_
      refine W_pure rfl rfl (po_move (ev_t rfl (by (conv => lhs; whnf) <;> rfl))) ?_
      refine W_pure rfl rfl (po_assign (ev_t rfl (by (conv => lhs; whnf) <;> rfl))) ?_
      refine W_done ?_
      exact W_ret fun fr σ' hf hz => ends_of (.inr rfl) hf hz rfl (show resOf _ _ _ _ _ from ⟨_, _, rfl, ev_t rfl (by (conv => lhs; whnf) <;> rfl), rfl⟩) rfl fun τ hz2 => by clear hf hz; simp_all [packV, Ev.freeze]
    · (try simp only [decide_eq_true_eq, decide_eq_false_iff_not, beq_iff_eq, beq_eq_false_iff_ne, bne_iff_ne, ne_eq, bne_eq_false_iff_eq, Bool.not_eq_true', Bool.not_eq_false', Bool.not_eq_true, Bool.not_eq_false, Bool.not_false, Bool.not_true, not_lt, not_le, Int.not_lt, Int.not_le, Decidable.not_not] at g1); (try simp at g1)
      refine W_skip ?_
      refine W_inB ?_
      refine W_region rfl ?_
      refine W_pure rfl rfl (po_add (ev_t rfl (by (conv => lhs; whnf) <;> rfl)) rfl (by first | omega | (simp only [List.length_map, List.length_append, List.length_cons, List.length_nil] at *; omega))) ?_
      refine W_pure rfl rfl (po_move (ev_t rfl (by (conv => lhs; whnf) <;> rfl))) ?_
      refine W_done ?_
      exact ih0 (i + 1) _ _ (⟨by omega, fun m y hm hy => by rcases Nat.lt_succ_iff_lt_or_eq.1 hm with h | rfl <;> first | exact hb m y h hy | (rw [hx] at hy; cases hy; exact g1)⟩) (by omega) (AE 8 (Eq.trans (by (conv => lhs; whnf) <;> rfl) (by first | rfl | (simp; done) | (simp; omega))) AE_nil) (AE 0 (by (conv => lhs; whnf) <;> rfl) (AE 1 (by (conv => lhs; whnf) <;> rfl) (AE 4 (by (conv => lhs; whnf) <;> rfl) (AE 7 (by (conv => lhs; whnf) <;> rfl) AE_nil)))) rfl
  · (try simp only [decide_eq_true_eq, decide_eq_false_iff_not, beq_iff_eq, beq_eq_false_iff_ne, bne_iff_ne, ne_eq, bne_eq_false_iff_eq, Bool.not_eq_true', Bool.not_eq_false', Bool.not_eq_true, Bool.not_eq_false, Bool.not_false, Bool.not_true, not_lt, not_le, Int.not_lt, Int.not_le, Decidable.not_not] at g0); (try simp at g0)
    have he := idx_none (p := p) (l := l) (fun m y hy => hb m y (by have := (List.getElem?_eq_some_iff.1 hy).1; omega) hy)
    refine W_exit rfl ?_
    refine W_seq ?_
    refine W_region rfl ?_
    refine W_pure rfl rfl (po_assign rfl) ?_
    refine W_done ?_
    exact W_ret fun fr σ' hf hz => ends_of (.inr rfl) hf hz rfl (show resOf _ _ _ _ _ from ⟨_, _, rfl, ev_t rfl (by (conv => lhs; whnf) <;> rfl), rfl⟩) rfl fun τ hz2 => by clear hf hz; simp_all [packV, Ev.freeze]

theorem c152 {fv vl : V} {p : V → Bool} {l : List V} {σ : St} (hl : SlOf vl l) (hc : ∀ x ∈ l, vcells x = [x]) (hp : ∀ x ∈ l, ∀ σ', Ext σ σ' → Run TC (.app false fv [x]) σ' (.val (.bool (p x))) σ') (hlen : l.length ≤ 4611686018427387904) :
    Run TC (.app false (.func (.func 152) [] []) [vl, fv]) σ (.val (.bool (l.any p))) σ := by
  refine fn_pure (n := 9) (fn := Try.f152) rfl Try.func152 rfl rfl rfl ?_
  refine W_seq ?_
  refine W_region rfl ?_
  refine W_pure rfl rfl (po_assign rfl) ?_
  refine W_done ?_
  refine W_seq ?_
  refine W_region rfl ?_
  refine W_pure rfl rfl (po_move (ev_t rfl (by (conv => lhs; whnf) <;> rfl))) ?_
  refine W_pure rfl rfl (po_move (ev_t rfl (by (conv => lhs; whnf) <;> rfl))) ?_
  refine W_call rfl rfl rfl rfl rfl (evl_cons (ev_t rfl (by (conv => lhs; whnf) <;> rfl)) (evl_cons (ev_t rfl (by (conv => lhs; whnf) <;> rfl)) evl_nil)) (fun σ hz => c171 hl hc (fun x hx σ' he => hp x hx σ' ((ext_of hz rfl).trans he)) hlen) ?_
  refine W_pure rfl rfl (po_bin (ev_t rfl (by (conv => lhs; whnf) <;> rfl)) rfl (by (conv => lhs; whnf) <;> rfl)) ?_
  refine W_pure rfl rfl (po_assign (ev_t rfl (by (conv => lhs; whnf) <;> rfl))) ?_
  refine W_done ?_
  exact W_ret fun fr σ' hf hz => ends_of (.inr rfl) hf hz rfl (show resOf _ _ _ _ _ from ⟨_, _, rfl, ev_t rfl (by (conv => lhs; whnf) <;> rfl), rfl⟩) rfl fun τ hz2 => by clear hf hz; simp [packV, Ev.freeze, ← idx_any]


theorem any_no {α : Type} (l : List α) : l.any (fun _ => false) = false := by induction l <;> simp_all
theorem eqV_int {P : Program} {d : Nat} {t : TypeId} {k : IntKind} {a b : Int} (hu : P.underlying t = some (.int k)) : eqV P (d + 1) t (.int k a) (.int k b) = some (a == b) := by simp [eqV, hu]
theorem eqV_struct {P : Program} {d : Nat} {t : TypeId} {fs : Array Field} {xs ys : List V} (hu : P.underlying t = some (.struct fs)) (hs : P.stoodInHeld t = false) : eqV P (d + 1) t (.agg xs) (.agg ys) = eqV.goS P d xs ys fs.toList := by simp [eqV, hu, hs]
theorem eqVSpan (a b c d : Int) : eqV TC.P Op.maxDepth 33 (.agg [int a, int b]) (.agg [int c, int d]) = some (a == c && b == d) := by
  have s : TC.P.stoodInHeld 33 = false := by show Try.prog.stoodInHeld 33 = false; kernel_rfl
  rw [show Op.maxDepth = 9998 + 1 + 1 from rfl]
  have e3 : ∀ x y : Int, eqV TC.P (9998 + 1) 3 (int x) (int y) = some (x == y) := fun x y => eqV_int U3
  have a3 : isAggT TC.P 3 = false := A3
  have u : TC.P.underlying 33 = _ := U33
  rw [eqV_struct u s]
  simp [eqV.goS, partV, a3, e3]
  generalize (a == c) = p
  generalize (b == d) = q
  cases p <;> cases q <;> rfl
theorem guardSpan : TC.P.eqGuardType TC.P.depth 33 = false := by show Try.prog.eqGuardType Try.prog.depth 33 = false; kernel_rfl
theorem eqSpan {ox oy : Operand} (a b c d : Int) : binV TC.P .eql 33 ox oy (.agg [int a, int b]) (.agg [int c, int d]) = some (.bool (a == c && b == d)) := by
  simp only [binV, binV.guard, guardSpan, eqVSpan]
  rfl
theorem neSpan {ox oy : Operand} (a b c d : Int) : binV TC.P .neq 33 ox oy (.agg [int a, int b]) (.agg [int c, int d]) = some (.bool (!(a == c && b == d))) := by
  simp only [binV, binV.guard, guardSpan, eqVSpan]
  rfl

theorem c119 (t : Tsk) (vm vp : V) (tv : TaskV t vm vp) (ok : OkTask t) (σ : St) : Run TC (.app false (.func (.func 119) [] []) [taskV t vm vp]) σ (.val (int 0)) σ := by
  obtain ⟨rs, hrs, hrl, hrr⟩ := tv.rows
  have hmany := ok.many
  have hlen := ok.len
  have hhold := ok.hold
  have htime := ok.time
  have hpl := tv.places
  refine fn_pure (n := 74) (fn := Try.f119) rfl Try.func119 rfl rfl rfl ?_
  refine W_seq ?_
  refine W_region rfl ?_
  refine W_box rfl rfl rfl (ev_t rfl (by (conv => lhs; whnf) <;> rfl)) rfl fun b1 hb1 => ?_
  refine W_pure rfl rfl (po_assign rfl) ?_
  refine W_done ?_
  refine W_seq ?_
  refine W_region rfl ?_
  refine W_pure rfl rfl (po_fieldAddr (ev_t rfl (by (conv => lhs; whnf) <;> rfl)) F40_1 T38 (by (conv => lhs; whnf) <;> rfl)) ?_
  refine W_pure rfl rfl (po_load (i := 0) (ev_t rfl (by (conv => lhs; whnf) <;> rfl)) K38 A38 rfl rfl) ?_
  refine W_pure rfl rfl (po_lenS rfl U38 (ev_t rfl (by (conv => lhs; whnf) <;> rfl)) (by first | exact SlOf.sl | exact SlOf.gr | exact SlOf.rd | exact SlOf.nil | assumption)) ?_
  refine W_pure rfl rfl (po_add (ev_t rfl (by (conv => lhs; whnf) <;> rfl)) rfl (by first | omega | (simp only [List.length_map, List.length_append, List.length_cons, List.length_nil] at *; omega))) ?_
  refine W_turn 12 (by (conv => lhs; whnf) <;> rfl) (v' := int ((t.places.length : Int) + 1)) (by simp) ?_
  refine W_alloc rfl rfl rfl Z3 (fun t h => by cases h) (by (conv => lhs; whnf) <;> rfl) fun b3 hb3 => ?_
  refine W_store (i := 0) rfl rfl rfl (ev_t rfl (by (conv => lhs; whnf) <;> rfl)) (ev_t rfl (by (conv => lhs; whnf) <;> rfl)) rfl (by first | exact vcells_gr | exact vcells_rd | exact (SlOf.cells (by assumption)).1 | ((conv => lhs; whnf) <;> rfl)) T3 rfl rfl (by first | rfl | (simp; done) | (simp [cellOK]; done)) (by simp only [wr]; exact rfl) (by simp only [zset]; exact rfl) ?_
  refine W_done ?_
  refine W_seq ?_
  refine W_seq ?_
  refine W_region rfl ?_
  refine W_pure rfl rfl (po_load (i := 0) (ev_t rfl (by (conv => lhs; whnf) <;> rfl)) K3 A3 rfl rfl) ?_
  refine W_pure rfl rfl (po_bin (ev_t rfl (by (conv => lhs; whnf) <;> rfl)) rfl (by (conv => lhs; whnf) <;> rfl)) ?_
  refine W_known 14 false (by (conv => lhs; whnf) <;> rfl) (by first | rfl | (congr 1; simp; done) | (congr 1; simp; omega) | (congr 1; simp only [decide_eq_true_eq, decide_eq_false_iff_not, List.length_map]; omega) | (congr 1; simp_all; done) | (congr 1; simp_all; omega)) ?_
  refine W_done ?_
  refine W_else (ev_t rfl (by (conv => lhs; whnf) <;> rfl)) ?_
  refine W_skip ?_
  refine W_seq ?_
  refine W_region rfl ?_
  refine W_pure rfl rfl (po_func evl_nil (evl_cons (ev_t rfl (by (conv => lhs; whnf) <;> rfl)) evl_nil)) ?_
  refine W_pure rfl rfl (po_assign (ev_t rfl (by (conv => lhs; whnf) <;> rfl))) ?_
  refine W_done ?_
  refine W_seq ?_
  refine W_seq ?_
  refine W_region rfl ?_
  refine W_pure rfl rfl (po_fieldAddr (ev_t rfl (by (conv => lhs; whnf) <;> rfl)) F40_0 T37 (by (conv => lhs; whnf) <;> rfl)) ?_
  refine W_pure rfl rfl (po_load (i := 1) (ev_t rfl (by (conv => lhs; whnf) <;> rfl)) K37 A37 rfl rfl) ?_
  refine W_pure rfl rfl (po_lenS rfl U37 (ev_t rfl (by (conv => lhs; whnf) <;> rfl)) (by first | exact SlOf.sl | exact SlOf.gr | exact SlOf.rd | exact SlOf.nil | assumption)) ?_
  refine W_pure rfl rfl (po_load (i := 0) (ev_t rfl (by (conv => lhs; whnf) <;> rfl)) K3 A3 rfl rfl) ?_
  refine W_pure rfl rfl (po_bin (ev_t rfl (by (conv => lhs; whnf) <;> rfl)) (ev_t rfl (by (conv => lhs; whnf) <;> rfl)) (by (conv => lhs; whnf) <;> rfl)) ?_
  refine W_known 20 false (by (conv => lhs; whnf) <;> rfl) (by (congr 1; simp; omega)) ?_
  refine W_pure rfl rfl (po_move (ev_t rfl (by (conv => lhs; whnf) <;> rfl))) ?_
  refine W_yes rfl rfl rfl rfl rfl rfl (po_fieldAddr (ev_t rfl (by (conv => lhs; whnf) <;> rfl)) F40_0 T37 (by (conv => lhs; whnf) <;> rfl)) ?_
  refine W_yes rfl rfl rfl rfl rfl rfl (po_load (i := 1) (ev_t rfl (by (conv => lhs; whnf) <;> rfl)) K37 A37 rfl rfl) ?_
  refine W_yes rfl rfl rfl rfl rfl rfl (po_move (ev_t rfl (by (conv => lhs; whnf) <;> rfl))) ?_
  refine W_yesCall rfl rfl rfl rfl rfl rfl rfl rfl rfl (evl_cons (ev_t rfl (by (conv => lhs; whnf) <;> rfl)) (evl_cons (ev_t rfl (by (conv => lhs; whnf) <;> rfl)) evl_nil)) (fun σ hz => c152 (p := fun _ => false) hrs (fun r hr => by obtain ⟨i, hi⟩ := List.getElem?_of_mem hr; obtain ⟨row, hrow⟩ : ∃ row, t.minutes[i]? = some row := ⟨_, List.getElem?_eq_getElem (by have := (List.getElem?_eq_some_iff.1 hi).1; omega)⟩; exact (hrr i r row hi hrow).cells.1) (fun r hr σ' he => by obtain ⟨i, hi⟩ := List.getElem?_of_mem hr; obtain ⟨row, hrow⟩ : ∃ row, t.minutes[i]? = some row := ⟨_, List.getElem?_eq_getElem (by have := (List.getElem?_eq_some_iff.1 hi).1; omega)⟩; have h1 := c151 ((t.places.length : Int) + 1) _ r _ (hrr i r row hi hrow) σ' (he _ _ (hz.get (i := 0) rfl)); rwa [show (((row.map span).length : Int) != (t.places.length : Int) + 1) = false by have := ok.row row (List.mem_of_getElem? hrow); simp; omega] at h1) (by omega)) ?_
  refine W_pure rfl rfl (po_pickF (ev_t rfl (by (conv => lhs; whnf) <;> rfl)) (ev_t rfl (by (conv => lhs; whnf) <;> rfl))) ?_
  refine W_known 26 false (by (conv => lhs; whnf) <;> rfl) (by rw [any_no]) ?_
  refine W_done ?_
  refine W_else (ev_t rfl (by (conv => lhs; whnf) <;> rfl)) ?_
  refine W_skip ?_
  refine W_seq ?_
  refine W_seq ?_
  refine W_region rfl ?_
  refine W_pure rfl rfl (po_fieldAddr (ev_t rfl (by (conv => lhs; whnf) <;> rfl)) F40_0 T37 (by (conv => lhs; whnf) <;> rfl)) ?_
  refine W_pure rfl rfl (po_load (i := 1) (ev_t rfl (by (conv => lhs; whnf) <;> rfl)) K37 A37 rfl rfl) ?_
  refine W_pure rfl rfl (po_lenS rfl U37 (ev_t rfl (by (conv => lhs; whnf) <;> rfl)) (by first | exact SlOf.sl | exact SlOf.gr | exact SlOf.rd | exact SlOf.nil | assumption)) ?_
  refine W_pure rfl rfl (po_move rfl) ?_
  refine W_done ?_
  refine W_block ?_
  refine W_loopI (S := Nat) (fun i => [(30, int i)]) [] (fun i => []) (fun i => i ≤ t.minutes.length) (fun i => t.minutes.length - i) (0) (AE 1 (by (conv => lhs; whnf) <;> rfl) (AE 2 (by (conv => lhs; whnf) <;> rfl) (AE 28 (by (conv => lhs; whnf) <;> rfl) (AE 29 (by (conv => lhs; whnf) <;> rfl) AE_nil)))) (AE 30 (Eq.trans (by (conv => lhs; whnf) <;> rfl) (by first | rfl | (simp; done) | (simp; omega))) AE_nil) rfl (Nat.zero_le _) ?_
  rintro i j0 hI0 ih0
  refine W_eqZ (by simp only [zsets, zset]; exact rfl) ?_
  refine W_seq ?_
  refine W_region rfl ?_
  refine W_pure rfl rfl (po_bin (ev_t rfl (by (conv => lhs; whnf) <;> rfl)) (ev_t rfl (by (conv => lhs; whnf) <;> rfl)) (by (conv => lhs; whnf) <;> rfl)) ?_
  refine W_done ?_
  refine W_seq ?_
  refine W_if (ev_t rfl (by (conv => lhs; whnf) <;> rfl)) (fun g0 => ?_) (fun g0 => ?_)
  · (try simp only [decide_eq_true_eq, decide_eq_false_iff_not, beq_iff_eq, beq_eq_false_iff_ne, bne_iff_ne, ne_eq, bne_eq_false_iff_eq, Bool.not_eq_true', Bool.not_eq_false', Bool.not_eq_true, Bool.not_eq_false, Bool.not_false, Bool.not_true, not_lt, not_le, Int.not_lt, Int.not_le, Decidable.not_not] at g0); (try simp at g0)
    have hlt : i < t.minutes.length := by omega
    obtain ⟨r, hr⟩ : ∃ r, rs[i]? = some r := ⟨_, List.getElem?_eq_getElem (by omega)⟩
    obtain ⟨row, hrow⟩ : ∃ row, t.minutes[i]? = some row := ⟨_, List.getElem?_eq_getElem hlt⟩
    have hr1 := hrr i r row hr hrow
    have hrow2 := ok.row row (List.mem_of_getElem? hrow)
    have hdiag := ok.diag i row hrow
    refine W_skip ?_
    refine W_seq ?_
    refine W_block ?_
    refine W_seq ?_
    refine W_region rfl ?_
    refine W_pure rfl rfl (po_move (ev_t rfl (by (conv => lhs; whnf) <;> rfl))) ?_
    refine W_pure rfl rfl (po_indexAddrS U37 T51 (ev_t rfl (by (conv => lhs; whnf) <;> rfl)) (by first | exact SlOf.sl | exact SlOf.gr | exact SlOf.rd | exact SlOf.nil | assumption) (ev_t rfl (by (conv => lhs; whnf) <;> rfl)) (by first | omega | (simp only [List.length_map, List.length_append, List.length_cons, List.length_nil] at *; omega)) (show _ = some r by simp [hr]) hr1.cells.1 rfl) ?_
    refine W_pure rfl rfl (po_loadR (ev_t rfl (by (conv => lhs; whnf) <;> rfl)) K51 A51) ?_
    refine W_pure rfl rfl (po_assign (ev_t rfl (by (conv => lhs; whnf) <;> rfl))) ?_
    refine W_pure rfl rfl (po_assign (ev_t rfl (by (conv => lhs; whnf) <;> rfl))) ?_
    refine W_done ?_
    refine W_seq ?_
    refine W_region rfl ?_
    refine W_pure rfl rfl (po_assign rfl) ?_
    refine W_done ?_
    refine W_seq ?_
    refine W_region rfl ?_
    refine W_pure rfl rfl (po_move (ev_t rfl (by (conv => lhs; whnf) <;> rfl))) ?_
    refine W_pure rfl rfl (po_move (ev_t rfl (by (conv => lhs; whnf) <;> rfl))) ?_
    refine W_call rfl rfl rfl rfl rfl (evl_cons (ev_t rfl (by (conv => lhs; whnf) <;> rfl)) (evl_cons (ev_t rfl (by (conv => lhs; whnf) <;> rfl)) evl_nil)) (fun σ hz => c125 (p := fun _ => false) hr1 (fun s hs σ' he => c153 s.1 s.2 (ok.span row (List.mem_of_getElem? hrow) s hs) σ') (by omega)) ?_
    refine W_known 37 false (by (conv => lhs; whnf) <;> rfl) (by rw [any_no]) ?_
    refine W_pure rfl rfl (po_move (ev_t rfl (by (conv => lhs; whnf) <;> rfl))) ?_
    refine W_yes rfl rfl rfl rfl rfl rfl (po_move (ev_t rfl (by (conv => lhs; whnf) <;> rfl))) ?_
    refine W_yes rfl rfl rfl rfl rfl rfl (po_move (ev_t rfl (by (conv => lhs; whnf) <;> rfl))) ?_
    refine W_yes rfl rfl rfl rfl rfl rfl (po_indexAddrS U51 T33 (ev_t rfl (by (conv => lhs; whnf) <;> rfl)) (by first | exact SlOf.sl | exact SlOf.gr | exact SlOf.rd | exact SlOf.nil | assumption) (ev_t rfl (by (conv => lhs; whnf) <;> rfl)) (by first | omega | (simp only [List.length_map, List.length_append, List.length_cons, List.length_nil] at *; omega)) (show _ = some (span (0, 0)) by simp [hdiag]) (by first | exact vcells_gr | exact vcells_rd | exact (SlOf.cells (by assumption)).1 | ((conv => lhs; whnf) <;> rfl)) rfl) ?_
    refine W_yes rfl rfl rfl rfl rfl rfl (po_loadRA (ev_t rfl (by (conv => lhs; whnf) <;> rfl)) K33 A33 T33 rfl (by simp only [sub]; exact rfl)) ?_
    refine W_yes rfl rfl rfl rfl rfl rfl (po_struct evp_nil Z33 P33 rfl (by simp only [lay, nth, wr, vcells]; exact rfl)) ?_
    refine W_yes rfl rfl rfl rfl rfl rfl (po_bin (ev_t rfl (by (conv => lhs; whnf) <;> rfl)) (ev_t rfl (by (conv => lhs; whnf) <;> rfl)) (neSpan _ _ _ _)) ?_
    refine W_known 44 false (by (conv => lhs; whnf) <;> rfl) (by first | rfl | (congr 1; simp; done) | (congr 1; simp; omega) | (congr 1; simp only [decide_eq_true_eq, decide_eq_false_iff_not, List.length_map]; omega) | (congr 1; simp_all; done) | (congr 1; simp_all; omega)) ?_
    refine W_pure rfl rfl (po_pickF (ev_t rfl (by (conv => lhs; whnf) <;> rfl)) (ev_t rfl (by (conv => lhs; whnf) <;> rfl))) ?_
    refine W_done ?_
    refine W_else (ev_t rfl (by (conv => lhs; whnf) <;> rfl)) ?_
    refine W_skip ?_
    refine W_inB ?_
    refine W_region rfl ?_
    refine W_pure rfl rfl (po_add (ev_t rfl (by (conv => lhs; whnf) <;> rfl)) rfl (by first | omega | (simp only [List.length_map, List.length_append, List.length_cons, List.length_nil] at *; omega))) ?_
    refine W_pure rfl rfl (po_move (ev_t rfl (by (conv => lhs; whnf) <;> rfl))) ?_
    refine W_done ?_
    exact ih0 (i + 1) _ _ (by omega) (by omega) (AE 30 (Eq.trans (by (conv => lhs; whnf) <;> rfl) (by first | rfl | (simp; done) | (simp; omega))) AE_nil) (AE 1 (by (conv => lhs; whnf) <;> rfl) (AE 2 (by (conv => lhs; whnf) <;> rfl) (AE 28 (by (conv => lhs; whnf) <;> rfl) (AE 29 (by (conv => lhs; whnf) <;> rfl) AE_nil)))) rfl
  · (try simp only [decide_eq_true_eq, decide_eq_false_iff_not, beq_iff_eq, beq_eq_false_iff_ne, bne_iff_ne, ne_eq, bne_eq_false_iff_eq, Bool.not_eq_true', Bool.not_eq_false', Bool.not_eq_true, Bool.not_eq_false, Bool.not_false, Bool.not_true, not_lt, not_le, Int.not_lt, Int.not_le, Decidable.not_not] at g0); (try simp at g0)
    refine W_exit rfl ?_
    refine W_seq ?_
    refine W_region rfl ?_
    refine W_pure rfl rfl (po_assign rfl) ?_
    refine W_done ?_
    refine W_seq ?_
    refine W_seq ?_
    refine W_region rfl ?_
    refine W_pure rfl rfl (po_fieldAddr (ev_t rfl (by (conv => lhs; whnf) <;> rfl)) F40_1 T38 (by (conv => lhs; whnf) <;> rfl)) ?_
    refine W_pure rfl rfl (po_load (i := 1) (ev_t rfl (by (conv => lhs; whnf) <;> rfl)) K38 A38 rfl rfl) ?_
    refine W_pure rfl rfl (po_move (ev_t rfl (by (conv => lhs; whnf) <;> rfl))) ?_
    refine W_call rfl rfl rfl rfl rfl (evl_cons (ev_t rfl (by (conv => lhs; whnf) <;> rfl)) (evl_cons (ev_t rfl (by (conv => lhs; whnf) <;> rfl)) evl_nil)) (fun σ hz => c155 (p := fun _ => false) hpl (fun q hq σ' he => c154 q (ok.place q hq) σ') (by omega)) ?_
    refine W_known 50 false (by (conv => lhs; whnf) <;> rfl) (by rw [any_no]) ?_
    refine W_pure rfl rfl (po_move (ev_t rfl (by (conv => lhs; whnf) <;> rfl))) ?_
    refine W_yes rfl rfl rfl rfl rfl rfl (po_fieldAddr (ev_t rfl (by (conv => lhs; whnf) <;> rfl)) F40_2 T3 (by (conv => lhs; whnf) <;> rfl)) ?_
    refine W_yes rfl rfl rfl rfl rfl rfl (po_load (i := 1) (ev_t rfl (by (conv => lhs; whnf) <;> rfl)) K3 A3 rfl rfl) ?_
    refine W_yesD rfl rfl rfl rfl rfl rfl (po_sliceD rfl U31 Z3 T3 rfl (evp_cons (ev_t rfl (by (conv => lhs; whnf) <;> rfl)) evp_nil) rfl (by first | rfl | simp [vcells]) (by simp [listSet]; rfl)) ?_
    refine W_yesCall rfl rfl rfl rfl rfl rfl rfl rfl rfl (evl_cons rfl (evl_cons rfl (evl_cons (ev_t rfl (by (conv => lhs; whnf) <;> rfl)) evl_nil))) (fun σ hz => c83 0 1000 [t.holds] (vl := .sl .full [int t.holds]) SlOf.sl (by simp) σ) ?_
    refine W_yes rfl rfl rfl rfl rfl rfl (po_un (ev_t rfl (by (conv => lhs; whnf) <;> rfl)) (by (conv => lhs; whnf) <;> rfl)) ?_
    refine W_known 56 false (by (conv => lhs; whnf) <;> rfl) (by rw [inside_one (by omega)]; rfl) ?_
    refine W_pure rfl rfl (po_pickF (ev_t rfl (by (conv => lhs; whnf) <;> rfl)) (ev_t rfl (by (conv => lhs; whnf) <;> rfl))) ?_
    refine W_pure rfl rfl (po_move (ev_t rfl (by (conv => lhs; whnf) <;> rfl))) ?_
    refine W_yes rfl rfl rfl rfl rfl rfl (po_fieldAddr (ev_t rfl (by (conv => lhs; whnf) <;> rfl)) F40_3 T3 (by (conv => lhs; whnf) <;> rfl)) ?_
    refine W_yes rfl rfl rfl rfl rfl rfl (po_load (i := 1) (ev_t rfl (by (conv => lhs; whnf) <;> rfl)) K3 A3 rfl rfl) ?_
    refine W_yes rfl rfl rfl rfl rfl rfl (po_fieldAddr (ev_t rfl (by (conv => lhs; whnf) <;> rfl)) F40_4 T3 (by (conv => lhs; whnf) <;> rfl)) ?_
    refine W_yes rfl rfl rfl rfl rfl rfl (po_load (i := 1) (ev_t rfl (by (conv => lhs; whnf) <;> rfl)) K3 A3 rfl rfl) ?_
    refine W_yesD rfl rfl rfl rfl rfl rfl (po_sliceD rfl U31 Z3 T3 rfl (evp_cons (ev_t rfl (by (conv => lhs; whnf) <;> rfl)) (evp_cons (ev_t rfl (by (conv => lhs; whnf) <;> rfl)) evp_nil)) rfl (by first | rfl | simp [vcells]) (by simp [listSet]; rfl)) ?_
    refine W_yesCall rfl rfl rfl rfl rfl rfl rfl rfl rfl (evl_cons rfl (evl_cons rfl (evl_cons (ev_t rfl (by (conv => lhs; whnf) <;> rfl)) evl_nil))) (fun σ hz => c83 0 5000 [t.leaves, t.back] (vl := .sl .full [int t.leaves, int t.back]) SlOf.sl (by simp) σ) ?_
    refine W_yes rfl rfl rfl rfl rfl rfl (po_un (ev_t rfl (by (conv => lhs; whnf) <;> rfl)) (by (conv => lhs; whnf) <;> rfl)) ?_
    refine W_known 65 false (by (conv => lhs; whnf) <;> rfl) (by rw [inside_two (by omega)]; rfl) ?_
    refine W_pure rfl rfl (po_pickF (ev_t rfl (by (conv => lhs; whnf) <;> rfl)) (ev_t rfl (by (conv => lhs; whnf) <;> rfl))) ?_
    refine W_pure rfl rfl (po_move (ev_t rfl (by (conv => lhs; whnf) <;> rfl))) ?_
    refine W_yes rfl rfl rfl rfl rfl rfl (po_fieldAddr (ev_t rfl (by (conv => lhs; whnf) <;> rfl)) F40_3 T3 (by (conv => lhs; whnf) <;> rfl)) ?_
    refine W_yes rfl rfl rfl rfl rfl rfl (po_load (i := 1) (ev_t rfl (by (conv => lhs; whnf) <;> rfl)) K3 A3 rfl rfl) ?_
    refine W_yes rfl rfl rfl rfl rfl rfl (po_fieldAddr (ev_t rfl (by (conv => lhs; whnf) <;> rfl)) F40_4 T3 (by (conv => lhs; whnf) <;> rfl)) ?_
    refine W_yes rfl rfl rfl rfl rfl rfl (po_load (i := 1) (ev_t rfl (by (conv => lhs; whnf) <;> rfl)) K3 A3 rfl rfl) ?_
    refine W_yes rfl rfl rfl rfl rfl rfl (po_bin (ev_t rfl (by (conv => lhs; whnf) <;> rfl)) (ev_t rfl (by (conv => lhs; whnf) <;> rfl)) (by (conv => lhs; whnf) <;> rfl)) ?_
    refine W_known 72 false (by (conv => lhs; whnf) <;> rfl) (by first | rfl | (congr 1; simp; done) | (congr 1; simp; omega) | (congr 1; simp only [decide_eq_true_eq, decide_eq_false_iff_not, List.length_map]; omega) | (congr 1; simp_all; done) | (congr 1; simp_all; omega)) ?_
    refine W_pure rfl rfl (po_pickF (ev_t rfl (by (conv => lhs; whnf) <;> rfl)) (ev_t rfl (by (conv => lhs; whnf) <;> rfl))) ?_
    refine W_done ?_
    refine W_else (ev_t rfl (by (conv => lhs; whnf) <;> rfl)) ?_
    refine W_skip ?_
    refine W_seq ?_
    refine W_region rfl ?_
    refine W_pure rfl rfl (po_assign rfl) ?_
    refine W_done ?_
    exact W_ret fun fr σ' hf hz => ends_of (.inr rfl) hf hz rfl (show resOf _ _ _ _ _ from ⟨_, _, rfl, ev_t rfl (by (conv => lhs; whnf) <;> rfl), rfl⟩) rfl fun τ hz2 => by clear hf hz; simp [packV, Ev.freeze]

theorem c80 (t : Tsk) (vm vp : V) (tv : TaskV t vm vp) (ok : OkTask t) (σ : St) : Run TC (.app false (.func (.func 80) [] []) [taskV t vm vp]) σ (.val (.tup [taskV t vm vp, int 0])) σ := by
  refine fn_pure (n := 8) (fn := Try.f80) rfl Try.func80 rfl rfl rfl ?_
  refine W_seq ?_
  refine W_region rfl ?_
  refine W_box rfl rfl rfl (ev_t rfl (by (conv => lhs; whnf) <;> rfl)) (by first | exact vcells_gr | exact vcells_rd | exact (SlOf.cells (by assumption)).1 | ((conv => lhs; whnf) <;> rfl)) fun b1 hb1 => ?_
  refine W_alloc rfl rfl rfl Z119 (fun t h => by cases h) (by (conv => lhs; whnf) <;> rfl) fun b2 hb2 => ?_
  refine W_pure rfl rfl (po_assign rfl) ?_
  refine W_done ?_
  refine W_seq ?_
  refine W_drawI (cs := [4]) (gl := [0, 1, 2, 3, 4, 5]) [0] (by simp only [zdrop, List.any_cons, List.any_nil, Nat.beq, Bool.or_false, cond_true, cond_false]; exact rfl) rfl rfl ?_
  refine DE_pureW (.cons _ (.cons_cons _ .slnil)) (want_none rfl) rfl (po_loadA (i := 0) (ev_t rfl (by (conv => lhs; whnf) <;> rfl)) K40 A40 T40 rfl rfl (by simp only [sub]; exact rfl)) ?_
  refine DE_pureW (.cons _ (.cons_cons _ .slnil)) (want_none rfl) rfl (po_struct (evp_cons (ev_t rfl (by (conv => lhs; whnf) <;> rfl)) evp_nil) Z119 P119 rfl (by simp only [lay, nth, wr, vcells]; exact rfl)) ?_
  refine DE_pureW (.cons _ (.cons_cons _ .slnil)) (want_none rfl) rfl (po_loadA (i := 0) (ev_t rfl (by (conv => lhs; whnf) <;> rfl)) K40 A40 T40 rfl rfl (by simp only [sub]; exact rfl)) ?_
  refine DE_callW (.cons _ (.cons_cons _ .slnil)) (want_none rfl) rfl rfl rfl rfl (evl_cons (ev_t rfl (by (conv => lhs; whnf) <;> rfl)) evl_nil) (fun σ hz => c119 t vm vp tv ok σ) ?_
  refine DE_eff0 (.cons _ (.cons_cons _ .slnil)) (want_none rfl) rfl rfl (eff_store (i := 0) (ev_t rfl (by (conv => lhs; whnf) <;> rfl)) (ev_t rfl (by (conv => lhs; whnf) <;> rfl)) rfl (by first | exact vcells_gr | exact vcells_rd | exact (SlOf.cells (by assumption)).1 | ((conv => lhs; whnf) <;> rfl)) T119 rfl rfl (by first | rfl | (simp only [List.all_cons, List.all_nil, vcells, tv.cm, tv.cp]; rfl)) (by simp only [wr]; exact rfl) (by simp only [zset]; exact rfl)) fun _ h_ => ?_
  refine DE_pureW (.cons _ (.cons_cons _ .slnil)) (want_none rfl) rfl (po_assign (ev_t rfl (by (conv => lhs; whnf) <;> rfl))) ?_
  refine DE_nil (.cons _ (.cons_cons _ .slnil)) ?_
  exact W_ret fun fr σ' hf hz => ends_of (.inr rfl) hf hz rfl (show resOf _ _ _ _ _ from ⟨_, _, rfl, po_loadA (i := 0) (ev_t rfl (by (conv => lhs; whnf) <;> rfl)) K119 A119 T119 rfl rfl (by simp only [sub]; exact rfl), ⟨_, _, rfl, ev_t rfl (by (conv => lhs; whnf) <;> rfl), rfl⟩⟩) rfl fun τ hz2 => by clear hf hz; simp [packV, Ev.freeze, Ev.freeze.frL, tv.fm, tv.fp]

end Go.Proofs

set_option linter.unusedVariables false
set_option linter.unusedSimpArgs false
set_option maxRecDepth 10000
namespace Go.Proofs
open Go Go.Ev TryT


/-! ### slices.Sorted of what ascends already -/
theorem it122 (b : Nat) (v : V) (l : List Int) (hv : SlOf v (l.map int)) (hl : l.length ≤ 1000000) : IterSpec TC (fun σ => σ[b]? = some (.cells 31 [v])) (.func (.func 122) [] [.ptr b 0]) (l.map int) [b] := by
  intro m lp σ Kb I J hσf hneed hKb hIl hJl hI0 hstep
  have hb : b ∉ Kb := hneed b (by simp)
  refine fn_iter (m := m) (n := 16) (fn := Try.f122) (A := I 0) (R := fun σ' => I (l.map int).length σ' ∨ ∃ i, i < (l.map int).length ∧ J i σ') rfl Try.func122 rfl rfl rfl hKb hI0 (hIl 0) (fun σ1 σ2 he h => by
    rcases h with h | ⟨i, hi, h⟩
    · exact .inl (hIl _ σ1 σ2 he h)
    · exact .inr ⟨i, hi, hJl _ σ1 σ2 he h⟩) ?_
  refine W_seq ?_
  refine W_region rfl ?_
  refine W_pure rfl rfl (po_loadO (ev_t rfl (by (conv => lhs; whnf) <;> rfl)) K31 A31 hσf hb rfl) ?_
  refine W_pure rfl rfl (po_lenS rfl U31 (ev_t rfl (by (conv => lhs; whnf) <;> rfl)) (by first | exact SlOf.sl | exact SlOf.gr | exact SlOf.rd | exact SlOf.nil | assumption)) ?_
  refine W_pure rfl rfl (po_move rfl) ?_
  refine W_done ?_
  refine W_block ?_
  refine W_loopY (S := Nat) (fun i => I i) (fun i => [(7, int i)]) [] (fun i => []) (fun i => i ≤ l.length) (fun i => l.length - i) (0) (AE 0 (by (conv => lhs; whnf) <;> rfl) (AE 5 (by (conv => lhs; whnf) <;> rfl) (AE 6 (by (conv => lhs; whnf) <;> rfl) AE_nil))) (AE 7 (Eq.trans (by (conv => lhs; whnf) <;> rfl) (by first | rfl | (simp; done) | (simp; omega))) AE_nil) rfl (Nat.zero_le _) ?_
  rintro i j0 hI0 ih0
  refine W_eqZ (by simp only [zsets, zset]; exact rfl) ?_
  refine W_seq ?_
  refine W_region rfl ?_
  refine W_pure rfl rfl (po_bin (ev_t rfl (by (conv => lhs; whnf) <;> rfl)) (ev_t rfl (by (conv => lhs; whnf) <;> rfl)) (by (conv => lhs; whnf) <;> rfl)) ?_
  refine W_done ?_
  refine W_seq ?_
  refine W_if (ev_t rfl (by (conv => lhs; whnf) <;> rfl)) (fun g0 => ?_) (fun g0 => ?_)
  · (try simp only [decide_eq_true_eq, decide_eq_false_iff_not, beq_iff_eq, beq_eq_false_iff_ne, bne_iff_ne, ne_eq, bne_eq_false_iff_eq, Bool.not_eq_true', Bool.not_eq_false', Bool.not_eq_true, Bool.not_eq_false, Bool.not_false, Bool.not_true, not_lt, not_le, Int.not_lt, Int.not_le, Decidable.not_not] at g0); (try simp at g0)
    have hlt : i < l.length := by omega
    obtain ⟨x, hx⟩ : ∃ x, l[i]? = some x := ⟨_, List.getElem?_eq_getElem hlt⟩
    refine W_skip ?_
    refine W_seq ?_
    refine W_block ?_
    refine W_seq ?_
    refine W_region rfl ?_
    refine W_pure rfl rfl (po_indexAddrS U31 T3 (ev_t rfl (by (conv => lhs; whnf) <;> rfl)) (by first | exact SlOf.sl | exact SlOf.gr | exact SlOf.rd | exact SlOf.nil | assumption) (ev_t rfl (by (conv => lhs; whnf) <;> rfl)) (by first | omega | (simp only [List.length_map, List.length_append, List.length_cons, List.length_nil] at *; omega)) (show _ = some (int x) by simp [hx]) (by first | exact vcells_gr | exact vcells_rd | exact (SlOf.cells (by assumption)).1 | ((conv => lhs; whnf) <;> rfl)) rfl) ?_
    refine W_pure rfl rfl (po_loadR (ev_t rfl (by (conv => lhs; whnf) <;> rfl)) K3 A3) ?_
    refine W_pure rfl rfl (po_assign (ev_t rfl (by (conv => lhs; whnf) <;> rfl))) ?_
    refine W_done ?_
    refine W_seq ?_
    refine W_region rfl ?_
    refine W_pure rfl rfl (po_move (ev_t rfl (by (conv => lhs; whnf) <;> rfl))) ?_
    refine W_pure rfl rfl (po_move (ev_t rfl (by (conv => lhs; whnf) <;> rfl))) ?_
    refine W_yield (A1 := I (i + 1)) (A2 := J i) rfl rfl rfl rfl (ev_t rfl (by (conv => lhs; whnf) <;> rfl)) (evl_cons (ev_t rfl (by (conv => lhs; whnf) <;> rfl)) evl_nil) (fun b h => h) (by simp) (fun σ h => h.2) (hIl _) (hJl _) (fun σ hz => hstep i (int x) σ (by simp [hx]) hz.inv.1 (hz.go rfl hz.inv.2)) ?_ ?_
    ·
      refine W_pure rfl rfl (po_un (ev_t rfl (by (conv => lhs; whnf) <;> rfl)) (by (conv => lhs; whnf) <;> rfl)) ?_
      refine W_done ?_
      refine W_else (ev_t rfl (by (conv => lhs; whnf) <;> rfl)) ?_
      refine W_skip ?_
      refine W_inB ?_
      refine W_region rfl ?_
      refine W_pure rfl rfl (po_add (ev_t rfl (by (conv => lhs; whnf) <;> rfl)) rfl (by first | omega | (simp only [List.length_map, List.length_append, List.length_cons, List.length_nil] at *; omega))) ?_
      refine W_pure rfl rfl (po_move (ev_t rfl (by (conv => lhs; whnf) <;> rfl))) ?_
      refine W_done ?_
      exact ih0 (i + 1) _ _ (by omega) (by omega) (AE 7 (Eq.trans (by (conv => lhs; whnf) <;> rfl) (by first | rfl | (simp; done) | (simp; omega))) AE_nil) (AE 0 (by (conv => lhs; whnf) <;> rfl) (AE 5 (by (conv => lhs; whnf) <;> rfl) (AE 6 (by (conv => lhs; whnf) <;> rfl) AE_nil))) rfl
    ·
      refine W_pure rfl rfl (po_un (ev_t rfl (by (conv => lhs; whnf) <;> rfl)) (by (conv => lhs; whnf) <;> rfl)) ?_
      refine W_done ?_
      refine W_then (ev_t rfl (by (conv => lhs; whnf) <;> rfl)) ?_
      exact W_ret fun fr σ' hf hz => endsI_of (.inr rfl) hz rfl (fun h => h.2) rfl fun h => .inr ⟨i, by simpa using hlt, h.1⟩
  · (try simp only [decide_eq_true_eq, decide_eq_false_iff_not, beq_iff_eq, beq_eq_false_iff_ne, bne_iff_ne, ne_eq, bne_eq_false_iff_eq, Bool.not_eq_true', Bool.not_eq_false', Bool.not_eq_true, Bool.not_eq_false, Bool.not_false, Bool.not_true, not_lt, not_le, Int.not_lt, Int.not_le, Decidable.not_not] at g0); (try simp at g0)
    have hend : i = l.length := by omega
    refine W_exit rfl ?_
    exact W_nil fun fr σ' hf hz => endsI_of (.inl rfl) hz rfl (fun h => h.2) rfl fun h => .inl (by simpa [hend] using h.1)

theorem c82 (v : V) (hv : vcells v = [v]) (σ : St) : ∃ b σ', σ.length ≤ b ∧ Grows σ σ' ∧ σ'[b]? = some (.cells 31 [v]) ∧ Run TC (.app false (.func (.func 82) [] []) [v]) σ (.val (.func (.func 122) [] [.ptr b 0])) σ' := by
  have hN := fn_new (C := TC) (g := 82) (first := []) (cap := []) (args := [v]) (σ := σ) (R := fun u σ' => ∃ b, σ.length ≤ b ∧ u = .func (.func 122) [] [.ptr b 0] ∧ σ'[b]? = some (.cells 31 [v])) (n := 4) (fn := Try.f82) rfl Try.func82 rfl rfl rfl (by
    refine W_seq ?_
    refine W_region rfl ?_
    refine W_box rfl rfl rfl (ev_t rfl (by (conv => lhs; whnf) <;> rfl)) hv fun b1 hb1 => ?_
    refine W_pure rfl rfl (po_assign rfl) ?_
    refine W_done ?_
    refine W_seq ?_
    refine W_region rfl ?_
    refine W_pure rfl rfl (po_func evl_nil (evl_cons (ev_t rfl (by (conv => lhs; whnf) <;> rfl)) evl_nil)) ?_
    refine W_pure rfl rfl (po_assign (ev_t rfl (by (conv => lhs; whnf) <;> rfl))) ?_
    refine W_done ?_
    exact W_ret fun fr σ' hf hz => endsN_of (.inr rfl) hf hz rfl (show resOf _ _ _ _ _ from ⟨_, _, rfl, ev_t rfl (by (conv => lhs; whnf) <;> rfl), rfl⟩) rfl fun σ2 hz2 => ⟨by have : ¬ b1 < σ.length := Nat.not_lt.2 hb1; simp [packV, Ev.freeze, Ev.freeze.frL, this], b1, hb1, rfl, hz2.get (i := 0) rfl⟩)
  obtain ⟨u, σ', hr, hg, b, hb, rfl, ho⟩ := hN; exact ⟨b, σ', hb, hg, ho, hr⟩

theorem c156 (b : Nat) (v : V) (l : List Int) (hv : SlOf v (l.map int)) (hl : l.length ≤ 1000000) (σ : St) (hb : σ[b]? = some (.cells 31 [v])) :
    Run TC (.app false (.func (.func 156) [] []) [.nilsl none, .func (.func 122) [] [.ptr b 0]]) σ (.val (rdSl true (l.map int))) σ := by
  refine fn_pure (n := 13) (fn := Try.f156) rfl Try.func156 rfl rfl rfl ?_
  refine W_seq ?_
  refine W_region rfl ?_
  refine W_ghost (d := 0) 3 true rfl (by first | rfl | simp) fun r0 hr0 => ?_
  refine W_box rfl rfl rfl (ev_t rfl (by (conv => lhs; whnf) <;> rfl)) (by (conv => lhs; whnf) <;> rfl) fun b2 hb2 => ?_
  refine W_pure rfl rfl (po_assign rfl) ?_
  refine W_done ?_
  refine W_seq ?_
  refine W_seq ?_
  refine W_region rfl ?_
  refine W_pure rfl rfl (po_move (ev_t rfl (by (conv => lhs; whnf) <;> rfl))) ?_
  refine W_done ?_
  refine W_block ?_
  refine W_rangeI (S := List Int) [0, 1] (fun s => [.cells 31 [grSl true r0 (s.map int)], .tok 3 s.length]) ([]) (fun i s => s = l.take i) (fun i e s => False) ((it122 b v l hv hl)) (ev_t rfl (by (conv => lhs; whnf) <;> rfl)) rfl (by intro l h; cases h) rfl (fun σ o hz => hz.oldA hb rfl) rfl (need_old hb rfl rfl) (by simp [zsets, zset, grSl_nilT, grSl_nilF]) (by simp) (by simp) (by simp) ?_ ?_ ?_
  · rintro i xv s lr σl frl hv0 hI0
    obtain ⟨x, hx, rfl⟩ : ∃ x, l[i]? = some x ∧ xv = int x := by (rw [List.getElem?_map] at hv0; cases h : l[i]? with | none => simp [h] at hv0 | some x => exact ⟨x, rfl, by simpa [h] using hv0.symm⟩)
    have hsl : s.length ≤ l.length := by rw [hI0]; simp; omega
    refine W_eqZ (by simp only [zsets, zset]; exact rfl) ?_
    refine W_region rfl ?_
    refine W_pure rfl rfl (po_assign (ev_t rfl (by (conv => lhs; whnf) <;> rfl))) ?_
    refine W_done ?_
    refine endsA_of (by simp) ?_
    refine W_block ?_
    refine W_region rfl ?_
    refine W_pure rfl rfl (po_load (i := 0) (ev_t rfl (by (conv => lhs; whnf) <;> rfl)) K31 A31 rfl rfl) ?_
    refine W_pure rfl rfl (po_move (ev_t rfl (by (conv => lhs; whnf) <;> rfl))) ?_
    refine W_pureD rfl rfl (po_sliceD rfl U31 Z3 T3 rfl (evp_cons (ev_t rfl (by (conv => lhs; whnf) <;> rfl)) evp_nil) rfl (by first | rfl | simp [vcells]) (by simp [listSet]; rfl)) ?_
    refine W_eff rfl rfl (eff_append (i := 1) rfl rfl U31 U31 (by intro k h; cases h) T3 B3 rfl ZO3 (ev_t rfl (by (conv => lhs; whnf) <;> rfl)) (ev_t rfl (by (conv => lhs; whnf) <;> rfl)) (by first | exact SlOf.sl | exact SlOf.gr | exact SlOf.rd | exact SlOf.nil | assumption) rfl (by simp) (by simp [vcells, cellOK]) (by first | (simp [vcells]; done) | (simp only [List.mem_map]; rintro x ⟨p, -, rfl⟩; rfl)) (by simp at *; omega) (by simp only [zset]; exact rfl)) fun _ h_ => ?_
    refine W_store (i := 0) rfl rfl rfl (ev_t rfl (by (conv => lhs; whnf) <;> rfl)) (ev_t rfl (by (conv => lhs; whnf) <;> rfl)) rfl (by first | exact vcells_gr | exact vcells_rd | exact (SlOf.cells (by assumption)).1 | ((conv => lhs; whnf) <;> rfl)) T31 rfl rfl (by first | rfl | (simp; done) | (simp [cellOK]; done)) (by simp only [wr]; exact rfl) (by simp only [zset]; exact rfl) ?_
    refine W_done ?_
    refine W_inB ?_
    exact endsB_of (s ++ [x]) rfl (by simp [zsets, zset]) ⟨fun _ => by rw [hI0, List.take_add_one, hx]; rfl, fun h => absurd rfl h⟩
  · rintro s hI0
    have hsl : s = l := by rw [hI0]; simp
    refine W_eqZ (by simp only [zsets, zset]; exact rfl) ?_
    refine W_inB ?_
    refine W_seq ?_
    refine W_region rfl ?_
    refine W_pure rfl rfl (po_load (i := 0) (ev_t rfl (by (conv => lhs; whnf) <;> rfl)) K31 A31 rfl rfl) ?_
    refine W_pure rfl rfl (po_assign (ev_t rfl (by (conv => lhs; whnf) <;> rfl))) ?_
    refine W_done ?_
    exact W_ret fun fr σ' hf hz => ends_of (.inr rfl) hf hz rfl (show resOf _ _ _ _ _ from ⟨_, _, rfl, ev_t rfl (by (conv => lhs; whnf) <;> rfl), rfl⟩) rfl fun τ hz2 => by clear hf hz; subst hsl; simp only [packV]; exact freeze_gr hr0 (frL_still (by simp [Still.int]))
  · rintro i e s c hi hJ hc; exact hJ.elim

theorem c120 (b : Nat) (v : V) (l : List Int) (hv : SlOf v (l.map int)) (hl : l.length ≤ 1000000) (σ : St) (hb : σ[b]? = some (.cells 31 [v])) :
    Run TC (.app false (.func (.func 120) [] []) [.func (.func 122) [] [.ptr b 0]]) σ (.val (rdSl true (l.map int))) σ := by
  refine fn_pure (n := 5) (fn := Try.f120) rfl Try.func120 rfl rfl rfl ?_
  refine W_seq ?_
  refine W_region rfl ?_
  refine W_pure rfl rfl (po_assign rfl) ?_
  refine W_done ?_
  refine W_seq ?_
  refine W_region rfl ?_
  refine W_pure rfl rfl (po_move (ev_t rfl (by (conv => lhs; whnf) <;> rfl))) ?_
  refine W_call rfl rfl rfl rfl rfl (evl_cons rfl (evl_cons (ev_t rfl (by (conv => lhs; whnf) <;> rfl)) evl_nil)) (fun σ hz => c156 b v l hv hl σ (ext_of hz rfl _ _ hb)) ?_
  refine W_pure rfl rfl (po_assign (ev_t rfl (by (conv => lhs; whnf) <;> rfl))) ?_
  refine W_done ?_
  exact W_ret fun fr σ' hf hz => ends_of (.inr rfl) hf hz rfl (show resOf _ _ _ _ _ from ⟨_, _, rfl, ev_t rfl (by (conv => lhs; whnf) <;> rfl), rfl⟩) rfl fun τ hz2 => by clear hf hz; simp only [packV]; exact Still.rd (by simp [Still.int]) _ _ _

theorem c189 (n : Int) (σ : St) : Run TC (.app false (.func (.func 189) [] []) [int n]) σ (.val (.bool false)) σ := by
  refine fn_pure (n := 6) (fn := Try.f189) rfl Try.func189 rfl rfl rfl ?_
  refine W_seq ?_
  refine W_region rfl ?_
  refine W_pure rfl rfl (po_assign rfl) ?_
  refine W_done ?_
  refine W_seq ?_
  refine W_region rfl ?_
  refine W_pure rfl rfl (po_move (ev_t rfl (by (conv => lhs; whnf) <;> rfl))) ?_
  refine W_pure rfl rfl (po_move (ev_t rfl (by (conv => lhs; whnf) <;> rfl))) ?_
  refine W_pure rfl rfl (po_bin (ev_t rfl (by (conv => lhs; whnf) <;> rfl)) (ev_t rfl (by (conv => lhs; whnf) <;> rfl)) (by (conv => lhs; whnf) <;> rfl)) ?_
  refine W_pure rfl rfl (po_assign (ev_t rfl (by (conv => lhs; whnf) <;> rfl))) ?_
  refine W_done ?_
  exact W_ret fun fr σ' hf hz => ends_of (.inr rfl) hf hz rfl (show resOf _ _ _ _ _ from ⟨_, _, rfl, ev_t rfl (by (conv => lhs; whnf) <;> rfl), rfl⟩) rfl fun τ hz2 => by clear hf hz; simp [packV, Ev.freeze]

theorem c179 (a b : Int) (σ : St) : Run TC (.app false (.func (.func 179) [] []) [int a, int b]) σ (.val (.bool (decide (a < b)))) σ := by
  refine fn_pure (n := 17) (fn := Try.f179) rfl Try.func179 rfl rfl rfl ?_
  refine W_seq ?_
  refine W_region rfl ?_
  refine W_pure rfl rfl (po_assign rfl) ?_
  refine W_done ?_
  refine W_seq ?_
  refine W_region rfl ?_
  refine W_pure rfl rfl (po_move (ev_t rfl (by (conv => lhs; whnf) <;> rfl))) ?_
  refine W_call rfl rfl rfl rfl rfl (evl_cons (ev_t rfl (by (conv => lhs; whnf) <;> rfl)) evl_nil) (fun σ hz => c189 a σ) ?_
  refine W_known 6 false (by (conv => lhs; whnf) <;> rfl) (by first | rfl | (congr 1; simp; done) | (congr 1; simp; omega) | (congr 1; simp only [decide_eq_true_eq, decide_eq_false_iff_not, List.length_map]; omega) | (congr 1; simp_all; done) | (congr 1; simp_all; omega)) ?_
  refine W_pure rfl rfl (po_move (ev_t rfl (by (conv => lhs; whnf) <;> rfl))) ?_
  refine W_no rfl rfl rfl rfl rfl rfl ?_
  refine W_no rfl rfl rfl rfl rfl rfl ?_
  refine W_no rfl rfl rfl rfl rfl rfl ?_
  refine W_pure rfl rfl (po_pickF (ev_t rfl (by (conv => lhs; whnf) <;> rfl)) rfl) ?_
  refine W_known 11 false (by (conv => lhs; whnf) <;> rfl) (by first | rfl | (congr 1; simp; done) | (congr 1; simp; omega) | (congr 1; simp only [decide_eq_true_eq, decide_eq_false_iff_not, List.length_map]; omega) | (congr 1; simp_all; done) | (congr 1; simp_all; omega)) ?_
  refine W_pure rfl rfl (po_move (ev_t rfl (by (conv => lhs; whnf) <;> rfl))) ?_
  refine W_yes rfl rfl rfl rfl rfl rfl (po_move (ev_t rfl (by (conv => lhs; whnf) <;> rfl))) ?_
  refine W_yes rfl rfl rfl rfl rfl rfl (po_move (ev_t rfl (by (conv => lhs; whnf) <;> rfl))) ?_
  refine W_yes rfl rfl rfl rfl rfl rfl (po_bin (ev_t rfl (by (conv => lhs; whnf) <;> rfl)) (ev_t rfl (by (conv => lhs; whnf) <;> rfl)) (by (conv => lhs; whnf) <;> rfl)) ?_
  refine W_pure rfl rfl (po_pickF (ev_t rfl (by (conv => lhs; whnf) <;> rfl)) (ev_t rfl (by (conv => lhs; whnf) <;> rfl))) ?_
  refine W_pure rfl rfl (po_assign (ev_t rfl (by (conv => lhs; whnf) <;> rfl))) ?_
  refine W_done ?_
  exact W_ret fun fr σ' hf hz => ends_of (.inr rfl) hf hz rfl (show resOf _ _ _ _ _ from ⟨_, _, rfl, ev_t rfl (by (conv => lhs; whnf) <;> rfl), rfl⟩) rfl fun τ hz2 => by clear hf hz; simp [packV, Ev.freeze]

theorem c173 (l : List Int) (ha : l.Pairwise (· < ·)) (v : V) (hv : SlOf v (l.map int)) (hl : l.length ≤ 1000000) (σ : St) : Run TC (.app false (.func (.func 173) [] []) [v, int 0, int l.length]) σ (.val (.tup [])) σ := by
  have hasc : ∀ (i : Nat) x y, l[i]? = some x → l[i + 1]? = some y → x < y := fun i x y hx hy => by (obtain ⟨h1, rfl⟩ := List.getElem?_eq_some_iff.1 hx; obtain ⟨h2, rfl⟩ := List.getElem?_eq_some_iff.1 hy; exact List.pairwise_iff_getElem.1 ha i (i + 1) h1 h2 (by omega))
  refine fn_pure (n := 49) (fn := Try.f173) rfl Try.func173 rfl rfl rfl ?_
  refine W_seq ?_
  refine W_region rfl ?_
  refine W_pure rfl rfl (po_move (ev_t rfl (by (conv => lhs; whnf) <;> rfl))) ?_
  refine W_pure rfl rfl (po_add (ev_t rfl (by (conv => lhs; whnf) <;> rfl)) rfl (by first | omega | (simp only [List.length_map, List.length_append, List.length_cons, List.length_nil] at *; omega))) ?_
  refine W_pure rfl rfl (po_assign (ev_t rfl (by (conv => lhs; whnf) <;> rfl))) ?_
  refine W_done ?_
  refine W_block ?_
  refine W_loopI (S := Nat) (fun i => [(6, int i)]) [] (fun i => []) (fun i => 1 ≤ i ∧ (i ≤ l.length ∨ i = 1)) (fun i => l.length - i) (1) (AE 0 (by (conv => lhs; whnf) <;> rfl) (AE 1 (by (conv => lhs; whnf) <;> rfl) (AE 2 (by (conv => lhs; whnf) <;> rfl) AE_nil))) (AE 6 (Eq.trans (by (conv => lhs; whnf) <;> rfl) (by first | rfl | (simp; done) | (simp; omega))) AE_nil) rfl (by omega) ?_
  rintro i j0 hI0 ih0
  refine W_eqZ (by simp only [zsets, zset]; exact rfl) ?_
  refine W_seq ?_
  refine W_seq ?_
  refine W_region rfl ?_
  refine W_pure rfl rfl (po_move (ev_t rfl (by (conv => lhs; whnf) <;> rfl))) ?_
  refine W_pure rfl rfl (po_move (ev_t rfl (by (conv => lhs; whnf) <;> rfl))) ?_
  refine W_pure rfl rfl (po_bin (ev_t rfl (by (conv => lhs; whnf) <;> rfl)) (ev_t rfl (by (conv => lhs; whnf) <;> rfl)) (by (conv => lhs; whnf) <;> rfl)) ?_
  refine W_done ?_
  refine W_if (ev_t rfl (by (conv => lhs; whnf) <;> rfl)) (fun g0 => ?_) (fun g0 => ?_)
  · (try simp only [decide_eq_true_eq, decide_eq_false_iff_not, beq_iff_eq, beq_eq_false_iff_ne, bne_iff_ne, ne_eq, bne_eq_false_iff_eq, Bool.not_eq_true', Bool.not_eq_false', Bool.not_eq_true, Bool.not_eq_false, Bool.not_false, Bool.not_true, not_lt, not_le, Int.not_lt, Int.not_le, Decidable.not_not] at g0); (try simp at g0)
    have hlt : i < l.length := by omega
    obtain ⟨x, hx⟩ : ∃ x, l[i]? = some x := ⟨_, List.getElem?_eq_getElem hlt⟩
    obtain ⟨y, hy⟩ : ∃ y, l[i - 1]? = some y := ⟨_, List.getElem?_eq_getElem (by omega)⟩
    have hxy : y < x := hasc (i - 1) y x hy (by rw [show i - 1 + 1 = i by omega]; exact hx)
    refine W_skip ?_
    refine W_seq ?_
    refine W_block ?_
    refine W_seq ?_
    refine W_region rfl ?_
    refine W_pure rfl rfl (po_move (ev_t rfl (by (conv => lhs; whnf) <;> rfl))) ?_
    refine W_pure rfl rfl (po_assign (ev_t rfl (by (conv => lhs; whnf) <;> rfl))) ?_
    refine W_done ?_
    refine W_block ?_
    refine W_loopI (S := Unit) (fun u => [(7, int i)]) [] (fun u => []) (fun u => True) (fun u => 0) (()) (AE 0 (by (conv => lhs; whnf) <;> rfl) (AE 1 (by (conv => lhs; whnf) <;> rfl) (AE 2 (by (conv => lhs; whnf) <;> rfl) (AE 6 (by (conv => lhs; whnf) <;> rfl) AE_nil)))) (AE 7 (Eq.trans (by (conv => lhs; whnf) <;> rfl) (by first | rfl | (simp; done) | (simp; omega))) AE_nil) rfl (trivial) ?_
    rintro u j1 hI1 ih1
    refine W_eqZ (by simp only [zsets, zset]; exact rfl) ?_
    refine W_seq ?_
    refine W_seq ?_
    refine W_drawI (cs := []) (gl := [0, 1, 2, 3, 4, 5, 6, 7, 8, 9, 10, 11, 12, 13, 14]) [] (by simp only [zdrop, List.any_cons, List.any_nil, Nat.beq, Bool.or_false, cond_true, cond_false]; exact rfl) rfl rfl ?_
    refine DE_pureW .slnil (want_none rfl) rfl (po_move (ev_t rfl (by (conv => lhs; whnf) <;> rfl))) ?_
    refine DE_pureW .slnil (want_none rfl) rfl (po_move (ev_t rfl (by (conv => lhs; whnf) <;> rfl))) ?_
    refine DE_pureW .slnil (want_none rfl) rfl (po_bin (ev_t rfl (by (conv => lhs; whnf) <;> rfl)) (ev_t rfl (by (conv => lhs; whnf) <;> rfl)) (by (conv => lhs; whnf) <;> rfl)) ?_
    refine DE_pureW .slnil (want_none rfl) rfl (po_move (ev_t rfl (by (conv => lhs; whnf) <;> rfl))) ?_
    refine DE_known 19 true (by (conv => lhs; whnf) <;> rfl) (by first | rfl | (congr 1; simp; done) | (congr 1; simp; omega) | (congr 1; simp only [decide_eq_true_eq, decide_eq_false_iff_not, List.length_map]; omega) | (congr 1; simp_all; done) | (congr 1; simp_all; omega)) ?_
    refine DE_pureW .slnil (want_yes rfl rfl rfl rfl rfl) rfl (po_move (ev_t rfl (by (conv => lhs; whnf) <;> rfl))) ?_
    refine DE_pureW .slnil (want_yes rfl rfl rfl rfl rfl) rfl (po_move (ev_t rfl (by (conv => lhs; whnf) <;> rfl))) ?_
    refine DE_pureW .slnil (want_yes rfl rfl rfl rfl rfl) rfl (po_indexAddrS U31 T3 (ev_t rfl (by (conv => lhs; whnf) <;> rfl)) (by first | exact SlOf.sl | exact SlOf.gr | exact SlOf.rd | exact SlOf.nil | assumption) (ev_t rfl (by (conv => lhs; whnf) <;> rfl)) (by first | omega | (simp only [List.length_map, List.length_append, List.length_cons, List.length_nil] at *; omega)) (show _ = some (int x) by simp [hx]) (by first | exact vcells_gr | exact vcells_rd | exact (SlOf.cells (by assumption)).1 | ((conv => lhs; whnf) <;> rfl)) rfl) ?_
    refine DE_pureW .slnil (want_yes rfl rfl rfl rfl rfl) rfl (po_loadR (ev_t rfl (by (conv => lhs; whnf) <;> rfl)) K3 A3) ?_
    refine DE_pureW .slnil (want_yes rfl rfl rfl rfl rfl) rfl (po_move (ev_t rfl (by (conv => lhs; whnf) <;> rfl))) ?_
    refine DE_pureW .slnil (want_yes rfl rfl rfl rfl rfl) rfl (po_move (ev_t rfl (by (conv => lhs; whnf) <;> rfl))) ?_
    refine DE_pureW .slnil (want_yes rfl rfl rfl rfl rfl) rfl (po_sub (ev_t rfl (by (conv => lhs; whnf) <;> rfl)) rfl (by first | omega | (simp only [List.length_map, List.length_append, List.length_cons, List.length_nil] at *; omega))) ?_
    refine DE_pureW .slnil (want_yes rfl rfl rfl rfl rfl) rfl (po_indexAddrS U31 T3 (ev_t rfl (by (conv => lhs; whnf) <;> rfl)) (by first | exact SlOf.sl | exact SlOf.gr | exact SlOf.rd | exact SlOf.nil | assumption) (ev_t rfl (by (conv => lhs; whnf) <;> rfl)) (by first | omega | (simp only [List.length_map, List.length_append, List.length_cons, List.length_nil] at *; omega)) (show _ = some (int y) by rw [show ((i : Int) - 1).toNat = i - 1 by omega]; simp [hy]) (by first | exact vcells_gr | exact vcells_rd | exact (SlOf.cells (by assumption)).1 | ((conv => lhs; whnf) <;> rfl)) rfl) ?_
    refine DE_pureW .slnil (want_yes rfl rfl rfl rfl rfl) rfl (po_loadR (ev_t rfl (by (conv => lhs; whnf) <;> rfl)) K3 A3) ?_
    refine DE_callW .slnil (want_yes rfl rfl rfl rfl rfl) rfl rfl rfl rfl (evl_cons (ev_t rfl (by (conv => lhs; whnf) <;> rfl)) (evl_cons (ev_t rfl (by (conv => lhs; whnf) <;> rfl)) evl_nil)) (fun σ hz => c179 x y σ) ?_
    refine DE_known 29 false (by (conv => lhs; whnf) <;> rfl) (by first | rfl | (congr 1; simp; done) | (congr 1; simp; omega) | (congr 1; simp only [decide_eq_true_eq, decide_eq_false_iff_not, List.length_map]; omega) | (congr 1; simp_all; done) | (congr 1; simp_all; omega)) ?_
    refine DE_pureW .slnil (want_none rfl) rfl (po_pickT (ev_t rfl (by (conv => lhs; whnf) <;> rfl)) (ev_t rfl (by (conv => lhs; whnf) <;> rfl))) ?_
    refine DE_nil .slnil ?_
    refine W_else (ev_t rfl (by (conv => lhs; whnf) <;> rfl)) ?_
    refine W_exit rfl ?_
    refine W_inB ?_
    refine W_region rfl ?_
    refine W_pure rfl rfl (po_move (ev_t rfl (by (conv => lhs; whnf) <;> rfl))) ?_
    refine W_pure rfl rfl (po_add (ev_t rfl (by (conv => lhs; whnf) <;> rfl)) rfl (by first | omega | (simp only [List.length_map, List.length_append, List.length_cons, List.length_nil] at *; omega))) ?_
    refine W_pure rfl rfl (po_assign (ev_t rfl (by (conv => lhs; whnf) <;> rfl))) ?_
    refine W_done ?_
    exact ih0 (i + 1) _ _ (by omega) (by omega) (AE 6 (Eq.trans (by (conv => lhs; whnf) <;> rfl) (by first | rfl | (simp; done) | (simp; omega))) AE_nil) (AE 0 (by (conv => lhs; whnf) <;> rfl) (AE 1 (by (conv => lhs; whnf) <;> rfl) (AE 2 (by (conv => lhs; whnf) <;> rfl) AE_nil))) rfl
  · (try simp only [decide_eq_true_eq, decide_eq_false_iff_not, beq_iff_eq, beq_eq_false_iff_ne, bne_iff_ne, ne_eq, bne_eq_false_iff_eq, Bool.not_eq_true', Bool.not_eq_false', Bool.not_eq_true, Bool.not_eq_false, Bool.not_false, Bool.not_true, not_lt, not_le, Int.not_lt, Int.not_le, Decidable.not_not] at g0); (try simp at g0)
    refine W_exit rfl ?_
    exact W_nil fun fr σ' hf hz => ends_of (.inl rfl) hf hz rfl (show resOf _ _ _ _ _ from rfl) rfl fun τ hz2 => by clear hf hz; simp [packV, Ev.freeze, Ev.freeze.frL]


abbrev lens : List (Int × Int) := [(0, 0), (1, 1), (2, 2), (3, 2), (4, 3), (5, 3), (6, 3), (7, 3), (8, 4), (9, 4), (10, 4), (11, 4), (12, 4)]
theorem lens_of {n k : Int} (h : (n, k) ∈ lens) : 0 ≤ n ∧ n ≤ 12 ∧ 0 ≤ k ∧ k ≤ 4 := by
  simp at h
  omega
theorem lens_all {n : Nat} (h : n ≤ 12) : ∃ k, ((n : Int), k) ∈ lens := by
  have : n = 0 ∨ n = 1 ∨ n = 2 ∨ n = 3 ∨ n = 4 ∨ n = 5 ∨ n = 6 ∨ n = 7 ∨ n = 8 ∨ n = 9 ∨ n = 10 ∨ n = 11 ∨ n = 12 := by omega
  rcases this with h | h | h | h | h | h | h | h | h | h | h | h | h <;> subst h <;> simp

theorem c183 (n k : Int) (hk : (n, k) ∈ lens) (σ : St) : Run TC (.app false (.func (.func 183) [] []) [.int .u64 n]) σ (.val (int k)) σ := by
  have h := lens_of hk
  refine fn_pure (n := 25) (fn := Try.f183) rfl Try.func183 rfl rfl rfl ?_
  refine W_seq ?_
  refine W_region rfl ?_
  refine W_pure rfl rfl (po_assign rfl) ?_
  refine W_done ?_
  refine W_seq ?_
  refine W_seq ?_
  refine W_region rfl ?_
  refine W_pure rfl rfl (po_move (ev_t rfl (by (conv => lhs; whnf) <;> rfl))) ?_
  refine W_pure rfl rfl (po_bin (ev_t rfl (by (conv => lhs; whnf) <;> rfl)) rfl (by (conv => lhs; whnf) <;> rfl)) ?_
  refine W_known 4 false (by (conv => lhs; whnf) <;> rfl) (by first | rfl | (congr 1; simp; done) | (congr 1; simp; omega) | (congr 1; simp only [decide_eq_true_eq, decide_eq_false_iff_not, List.length_map]; omega) | (congr 1; simp_all; done) | (congr 1; simp_all; omega)) ?_
  refine W_done ?_
  refine W_else (ev_t rfl (by (conv => lhs; whnf) <;> rfl)) ?_
  refine W_skip ?_
  refine W_seq ?_
  refine W_seq ?_
  refine W_region rfl ?_
  refine W_pure rfl rfl (po_move (ev_t rfl (by (conv => lhs; whnf) <;> rfl))) ?_
  refine W_pure rfl rfl (po_bin (ev_t rfl (by (conv => lhs; whnf) <;> rfl)) rfl (by (conv => lhs; whnf) <;> rfl)) ?_
  refine W_known 8 false (by (conv => lhs; whnf) <;> rfl) (by first | rfl | (congr 1; simp; done) | (congr 1; simp; omega) | (congr 1; simp only [decide_eq_true_eq, decide_eq_false_iff_not, List.length_map]; omega) | (congr 1; simp_all; done) | (congr 1; simp_all; omega)) ?_
  refine W_done ?_
  refine W_else (ev_t rfl (by (conv => lhs; whnf) <;> rfl)) ?_
  refine W_skip ?_
  refine W_seq ?_
  refine W_seq ?_
  refine W_region rfl ?_
  refine W_pure rfl rfl (po_move (ev_t rfl (by (conv => lhs; whnf) <;> rfl))) ?_
  refine W_pure rfl rfl (po_bin (ev_t rfl (by (conv => lhs; whnf) <;> rfl)) rfl (by (conv => lhs; whnf) <;> rfl)) ?_
  refine W_known 14 false (by (conv => lhs; whnf) <;> rfl) (by first | rfl | (congr 1; simp; done) | (congr 1; simp; omega) | (congr 1; simp only [decide_eq_true_eq, decide_eq_false_iff_not, List.length_map]; omega) | (congr 1; simp_all; done) | (congr 1; simp_all; omega)) ?_
  refine W_done ?_
  refine W_else (ev_t rfl (by (conv => lhs; whnf) <;> rfl)) ?_
  refine W_skip ?_
  refine W_seq ?_
  refine W_region rfl ?_
  refine W_pure rfl rfl (po_move (ev_t rfl (by (conv => lhs; whnf) <;> rfl))) ?_
  refine W_pure rfl rfl (po_move (ev_t rfl (by (conv => lhs; whnf) <;> rfl))) ?_
  refine W_pure rfl rfl (po_conv (ev_t rfl (by (conv => lhs; whnf) <;> rfl)) U303 U5) ?_
  refine W_turn 21 (by (conv => lhs; whnf) <;> rfl) (v' := .int .u8 n) (by rw [wrapB n (by omega) (by omega)]) ?_
  refine W_pure rfl rfl (po_indexStr U9 rfl (ev_t rfl (by (conv => lhs; whnf) <;> rfl)) (by first | omega | (simp only [List.length_map, List.length_append, List.length_cons, List.length_nil] at *; omega)) (by show _ < ByteArray.size _; rw [show ByteArray.size _ = 256 from rfl]; omega)) ?_
  refine W_pure rfl rfl (po_conv (ev_t rfl (by (conv => lhs; whnf) <;> rfl)) U5 U3) ?_
  refine W_pure rfl rfl (po_add (ev_t rfl (by (conv => lhs; whnf) <;> rfl)) (ev_t rfl (by (conv => lhs; whnf) <;> rfl)) (by simp only [wrapI]; omega)) ?_
  refine W_pure rfl rfl (po_assign (ev_t rfl (by (conv => lhs; whnf) <;> rfl))) ?_
  refine W_done ?_
  exact W_ret fun fr σ' hf hz => ends_of (.inr rfl) hf hz rfl (show resOf _ _ _ _ _ from ⟨_, _, rfl, ev_t rfl (by (conv => lhs; whnf) <;> rfl), rfl⟩) rfl fun τ hz2 => by clear hf hz; simp only [packV, Ev.freeze]; simp at hk; rcases hk with ⟨rfl, rfl⟩ | ⟨rfl, rfl⟩ | ⟨rfl, rfl⟩ | ⟨rfl, rfl⟩ | ⟨rfl, rfl⟩ | ⟨rfl, rfl⟩ | ⟨rfl, rfl⟩ | ⟨rfl, rfl⟩ | ⟨rfl, rfl⟩ | ⟨rfl, rfl⟩ | ⟨rfl, rfl⟩ | ⟨rfl, rfl⟩ | ⟨rfl, rfl⟩ <;> rfl

theorem c158 (n k : Int) (hk : (n, k) ∈ lens) (σ : St) : Run TC (.app false (.func (.func 158) [] []) [.int .u64 n]) σ (.val (int k)) σ := by
  refine fn_pure (n := 8) (fn := Try.f158) rfl Try.func158 rfl rfl rfl ?_
  refine W_seq ?_
  refine W_region rfl ?_
  refine W_pure rfl rfl (po_assign rfl) ?_
  refine W_done ?_
  refine W_seq ?_
  refine W_else rfl ?_
  refine W_skip ?_
  refine W_seq ?_
  refine W_region rfl ?_
  refine W_pure rfl rfl (po_move (ev_t rfl (by (conv => lhs; whnf) <;> rfl))) ?_
  refine W_call rfl rfl rfl rfl rfl (evl_cons (ev_t rfl (by (conv => lhs; whnf) <;> rfl)) evl_nil) (fun σ hz => c183 n k hk σ) ?_
  refine W_pure rfl rfl (po_assign (ev_t rfl (by (conv => lhs; whnf) <;> rfl))) ?_
  refine W_done ?_
  exact W_ret fun fr σ' hf hz => ends_of (.inr rfl) hf hz rfl (show resOf _ _ _ _ _ from ⟨_, _, rfl, ev_t rfl (by (conv => lhs; whnf) <;> rfl), rfl⟩) rfl fun τ hz2 => by clear hf hz; simp [packV, Ev.freeze]

theorem c157 (l : List Int) (ha : l.Pairwise (· < ·)) (v : V) (hv : SlOf v (l.map int)) (hl : l.length ≤ 12) (k : Int) (σ : St) : Run TC (.app false (.func (.func 157) [] []) [v, int 0, int l.length, int k]) σ (.val (.tup [])) σ := by
  refine fn_pure (n := 134) (fn := Try.f157) rfl Try.func157 rfl rfl rfl ?_
  refine W_seq ?_
  refine W_region rfl ?_
  refine W_pure rfl rfl (po_assign rfl) ?_
  refine W_done ?_
  refine W_seq ?_
  refine W_region rfl ?_
  refine W_pure rfl rfl (po_assign rfl) ?_
  refine W_done ?_
  refine W_block ?_
  refine W_loopI (S := Unit) (fun u => []) [] (fun u => []) (fun u => True) (fun u => 0) (()) (AE 0 (by (conv => lhs; whnf) <;> rfl) (AE 1 (by (conv => lhs; whnf) <;> rfl) (AE 2 (by (conv => lhs; whnf) <;> rfl) (AE 3 (by (conv => lhs; whnf) <;> rfl) (AE 8 (by (conv => lhs; whnf) <;> rfl) (AE 9 (by (conv => lhs; whnf) <;> rfl) AE_nil)))))) AE_nil rfl (trivial) ?_
  rintro u j0 hI0 ih0
  refine W_eqZ (by simp only [zsets, zset]; exact rfl) ?_
  refine W_block ?_
  refine W_seq ?_
  refine W_region rfl ?_
  refine W_pure rfl rfl (po_move (ev_t rfl (by (conv => lhs; whnf) <;> rfl))) ?_
  refine W_pure rfl rfl (po_move (ev_t rfl (by (conv => lhs; whnf) <;> rfl))) ?_
  refine W_pure rfl rfl (po_sub (ev_t rfl (by (conv => lhs; whnf) <;> rfl)) (ev_t rfl (by (conv => lhs; whnf) <;> rfl)) (by first | omega | (simp only [List.length_map, List.length_append, List.length_cons, List.length_nil] at *; omega))) ?_
  refine W_pure rfl rfl (po_assign (ev_t rfl (by (conv => lhs; whnf) <;> rfl))) ?_
  refine W_done ?_
  refine W_seq ?_
  refine W_seq ?_
  refine W_region rfl ?_
  refine W_pure rfl rfl (po_move (ev_t rfl (by (conv => lhs; whnf) <;> rfl))) ?_
  refine W_pure rfl rfl (po_bin (ev_t rfl (by (conv => lhs; whnf) <;> rfl)) rfl (by (conv => lhs; whnf) <;> rfl)) ?_
  refine W_known 23 true (by (conv => lhs; whnf) <;> rfl) (by first | rfl | (congr 1; simp; done) | (congr 1; simp; omega) | (congr 1; simp only [decide_eq_true_eq, decide_eq_false_iff_not, List.length_map]; omega) | (congr 1; simp_all; done) | (congr 1; simp_all; omega)) ?_
  refine W_done ?_
  refine W_then (ev_t rfl (by (conv => lhs; whnf) <;> rfl)) ?_
  refine W_seq ?_
  refine W_region rfl ?_
  refine W_pure rfl rfl (po_move (ev_t rfl (by (conv => lhs; whnf) <;> rfl))) ?_
  refine W_pure rfl rfl (po_move (ev_t rfl (by (conv => lhs; whnf) <;> rfl))) ?_
  refine W_pure rfl rfl (po_move (ev_t rfl (by (conv => lhs; whnf) <;> rfl))) ?_
  refine W_call rfl rfl rfl rfl rfl (evl_cons (ev_t rfl (by (conv => lhs; whnf) <;> rfl)) (evl_cons (ev_t rfl (by (conv => lhs; whnf) <;> rfl)) (evl_cons (ev_t rfl (by (conv => lhs; whnf) <;> rfl)) evl_nil))) (fun σ hz => c173 l ha v hv (by omega) σ) ?_
  refine W_done ?_
  exact W_ret fun fr σ' hf hz => ends_of (.inr rfl) hf hz rfl (show resOf _ _ _ _ _ from rfl) rfl fun τ hz2 => by clear hf hz; simp [packV, Ev.freeze, Ev.freeze.frL]

theorem c121 (l : List Int) (ha : l.Pairwise (· < ·)) (v : V) (hv : SlOf v (l.map int)) (hl : l.length ≤ 12) (σ : St) : Run TC (.app false (.func (.func 121) [] []) [v]) σ (.val (.tup [])) σ := by
  obtain ⟨k, hk⟩ := lens_all hl
  refine fn_pure (n := 11) (fn := Try.f121) rfl Try.func121 rfl rfl rfl ?_
  refine W_seq ?_
  refine W_region rfl ?_
  refine W_pure rfl rfl (po_move (ev_t rfl (by (conv => lhs; whnf) <;> rfl))) ?_
  refine W_pure rfl rfl (po_lenS rfl U31 (ev_t rfl (by (conv => lhs; whnf) <;> rfl)) (by first | exact SlOf.sl | exact SlOf.gr | exact SlOf.rd | exact SlOf.nil | assumption)) ?_
  refine W_turn 4 (by (conv => lhs; whnf) <;> rfl) (v' := int l.length) (by simp) ?_
  refine W_pure rfl rfl (po_assign (ev_t rfl (by (conv => lhs; whnf) <;> rfl))) ?_
  refine W_done ?_
  refine W_region rfl ?_
  refine W_pure rfl rfl (po_move (ev_t rfl (by (conv => lhs; whnf) <;> rfl))) ?_
  refine W_pure rfl rfl (po_move (ev_t rfl (by (conv => lhs; whnf) <;> rfl))) ?_
  refine W_pure rfl rfl (po_move (ev_t rfl (by (conv => lhs; whnf) <;> rfl))) ?_
  refine W_pure rfl rfl (po_conv (ev_t rfl (by (conv => lhs; whnf) <;> rfl)) U3 U281) ?_
  refine W_turn 8 (by (conv => lhs; whnf) <;> rfl) (v' := .int .u64 l.length) (by rw [wrapU _ (by omega) (by omega)]) ?_
  refine W_call rfl rfl rfl rfl rfl (evl_cons (ev_t rfl (by (conv => lhs; whnf) <;> rfl)) evl_nil) (fun σ hz => c158 _ k hk σ) ?_
  refine W_call rfl rfl rfl rfl rfl (evl_cons (ev_t rfl (by (conv => lhs; whnf) <;> rfl)) (evl_cons rfl (evl_cons (ev_t rfl (by (conv => lhs; whnf) <;> rfl)) (evl_cons (ev_t rfl (by (conv => lhs; whnf) <;> rfl)) evl_nil)))) (fun σ hz => c157 l ha v hv hl k σ) ?_
  refine W_done ?_
  exact W_nil fun fr σ' hf hz => ends_of (.inl rfl) hf hz rfl (show resOf _ _ _ _ _ from rfl) rfl fun τ hz2 => by clear hf hz; simp [packV, Ev.freeze, Ev.freeze.frL]


/-- slices.Sorted of a list gives a list. -/
def Sorts (l l' : List Int) : Prop := ∀ (b : Nat) (v : V) (σ : St), SlOf v (l.map int) → σ[b]? = some (.cells 31 [v]) → Run TC (.app false (.func (.func 81) [] []) [.func (.func 122) [] [.ptr b 0]]) σ (.val (rdSl true (l'.map int))) σ

theorem c81 (l : List Int) (ha : l.Pairwise (· < ·)) (hl : l.length ≤ 12) : Sorts l l := by
  intro b v σ hv hb
  refine fn_pure (n := 9) (fn := Try.f81) rfl Try.func81 rfl rfl rfl ?_
  refine W_seq ?_
  refine W_region rfl ?_
  refine W_pure rfl rfl (po_assign rfl) ?_
  refine W_done ?_
  refine W_seq ?_
  refine W_region rfl ?_
  refine W_pure rfl rfl (po_move (ev_t rfl (by (conv => lhs; whnf) <;> rfl))) ?_
  refine W_call rfl rfl rfl rfl rfl (evl_cons (ev_t rfl (by (conv => lhs; whnf) <;> rfl)) evl_nil) (fun σ hz => c120 b v l hv (by omega) σ (ext_of hz rfl _ _ hb)) ?_
  refine W_pure rfl rfl (po_assign (ev_t rfl (by (conv => lhs; whnf) <;> rfl))) ?_
  refine W_done ?_
  refine W_seq ?_
  refine W_region rfl ?_
  refine W_pure rfl rfl (po_move (ev_t rfl (by (conv => lhs; whnf) <;> rfl))) ?_
  refine W_call rfl rfl rfl rfl rfl (evl_cons (ev_t rfl (by (conv => lhs; whnf) <;> rfl)) evl_nil) (fun σ hz => c121 l ha _ SlOf.rd hl σ) ?_
  refine W_done ?_
  refine W_seq ?_
  refine W_region rfl ?_
  refine W_pure rfl rfl (po_move (ev_t rfl (by (conv => lhs; whnf) <;> rfl))) ?_
  refine W_pure rfl rfl (po_assign (ev_t rfl (by (conv => lhs; whnf) <;> rfl))) ?_
  refine W_done ?_
  exact W_ret fun fr σ' hf hz => ends_of (.inr rfl) hf hz rfl (show resOf _ _ _ _ _ from ⟨_, _, rfl, ev_t rfl (by (conv => lhs; whnf) <;> rfl), rfl⟩) rfl fun τ hz2 => by clear hf hz; simp only [packV]; exact Still.rd (by simp [Still.int]) _ _ _

theorem c84 (l : List Int) (ha : l.Nodup) (v : V) (hv : SlOf v (l.map int)) (sv : Still TC.P v) (hl : l.length ≤ 1000000) (σ : St) : Run TC (.app false (.func (.func 84) [] []) [v]) σ (.val v) σ := by
  have hne : ∀ (i : Nat) x y, l[i]? = some x → l[i + 1]? = some y → x ≠ y := fun i x y hx hy => by (obtain ⟨h1, rfl⟩ := List.getElem?_eq_some_iff.1 hx; obtain ⟨h2, rfl⟩ := List.getElem?_eq_some_iff.1 hy; exact List.pairwise_iff_getElem.1 ha i (i + 1) h1 h2 (by omega))
  refine fn_pure (n := 61) (fn := Try.f84) rfl Try.func84 rfl rfl rfl ?_
  refine W_seq ?_
  refine W_region rfl ?_
  refine W_pure rfl rfl (po_assign rfl) ?_
  refine W_done ?_
  refine W_seq ?_
  refine W_seq ?_
  refine W_region rfl ?_
  refine W_pure rfl rfl (po_move (ev_t rfl (by (conv => lhs; whnf) <;> rfl))) ?_
  refine W_pure rfl rfl (po_lenS rfl U31 (ev_t rfl (by (conv => lhs; whnf) <;> rfl)) (by first | exact SlOf.sl | exact SlOf.gr | exact SlOf.rd | exact SlOf.nil | assumption)) ?_
  refine W_pure rfl rfl (po_bin (ev_t rfl (by (conv => lhs; whnf) <;> rfl)) rfl (by (conv => lhs; whnf) <;> rfl)) ?_
  refine W_done ?_
  refine W_if (ev_t rfl (by (conv => lhs; whnf) <;> rfl)) (fun g0 => ?_) (fun g0 => ?_)
  · (try simp only [decide_eq_true_eq, decide_eq_false_iff_not, beq_iff_eq, beq_eq_false_iff_ne, bne_iff_ne, ne_eq, bne_eq_false_iff_eq, Bool.not_eq_true', Bool.not_eq_false', Bool.not_eq_true, Bool.not_eq_false, Bool.not_false, Bool.not_true, not_lt, not_le, Int.not_lt, Int.not_le, Decidable.not_not] at g0); (try simp at g0)
    refine W_seq ?_
    refine W_region rfl ?_
    refine W_pure rfl rfl (po_move (ev_t rfl (by (conv => lhs; whnf) <;> rfl))) ?_
    refine W_pure rfl rfl (po_assign (ev_t rfl (by (conv => lhs; whnf) <;> rfl))) ?_
    refine W_done ?_
    exact W_ret fun fr σ' hf hz => ends_of (.inr rfl) hf hz rfl (show resOf _ _ _ _ _ from ⟨_, _, rfl, ev_t rfl (by (conv => lhs; whnf) <;> rfl), rfl⟩) rfl fun τ hz2 => by clear hf hz; simp only [packV]; exact sv _ _ _
  · (try simp only [decide_eq_true_eq, decide_eq_false_iff_not, beq_iff_eq, beq_eq_false_iff_ne, bne_iff_ne, ne_eq, bne_eq_false_iff_eq, Bool.not_eq_true', Bool.not_eq_false', Bool.not_eq_true, Bool.not_eq_false, Bool.not_false, Bool.not_true, not_lt, not_le, Int.not_lt, Int.not_le, Decidable.not_not] at g0); (try simp at g0)
    refine W_skip ?_
    refine W_seq ?_
    refine W_seq ?_
    refine W_region rfl ?_
    refine W_pure rfl rfl (po_assign rfl) ?_
    refine W_done ?_
    refine W_block ?_
    refine W_loopI (S := Nat) (fun i => [(3, int i)]) [] (fun i => []) (fun i => 1 ≤ i) (fun i => l.length - i) (1) (AE 0 (by (conv => lhs; whnf) <;> rfl) (AE 2 (by (conv => lhs; whnf) <;> rfl) AE_nil)) (AE 3 (Eq.trans (by (conv => lhs; whnf) <;> rfl) (by first | rfl | (simp; done) | (simp; omega))) AE_nil) rfl (by omega) ?_
    rintro i j0 hI0 ih0
    refine W_eqZ (by simp only [zsets, zset]; exact rfl) ?_
    refine W_seq ?_
    refine W_seq ?_
    refine W_region rfl ?_
    refine W_pure rfl rfl (po_move (ev_t rfl (by (conv => lhs; whnf) <;> rfl))) ?_
    refine W_pure rfl rfl (po_move (ev_t rfl (by (conv => lhs; whnf) <;> rfl))) ?_
    refine W_pure rfl rfl (po_lenS rfl U31 (ev_t rfl (by (conv => lhs; whnf) <;> rfl)) (by first | exact SlOf.sl | exact SlOf.gr | exact SlOf.rd | exact SlOf.nil | assumption)) ?_
    refine W_pure rfl rfl (po_bin (ev_t rfl (by (conv => lhs; whnf) <;> rfl)) (ev_t rfl (by (conv => lhs; whnf) <;> rfl)) (by (conv => lhs; whnf) <;> rfl)) ?_
    refine W_done ?_
    refine W_if (ev_t rfl (by (conv => lhs; whnf) <;> rfl)) (fun g1 => ?_) (fun g1 => ?_)
    · (try simp only [decide_eq_true_eq, decide_eq_false_iff_not, beq_iff_eq, beq_eq_false_iff_ne, bne_iff_ne, ne_eq, bne_eq_false_iff_eq, Bool.not_eq_true', Bool.not_eq_false', Bool.not_eq_true, Bool.not_eq_false, Bool.not_false, Bool.not_true, not_lt, not_le, Int.not_lt, Int.not_le, Decidable.not_not] at g1); (try simp at g1)
      have hlt : i < l.length := by omega
      obtain ⟨x, hx⟩ : ∃ x, l[i]? = some x := ⟨_, List.getElem?_eq_getElem hlt⟩
      obtain ⟨y, hy⟩ : ∃ y, l[i - 1]? = some y := ⟨_, List.getElem?_eq_getElem (by omega)⟩
      have hxy : y ≠ x := hne (i - 1) y x hy (by rw [show i - 1 + 1 = i by omega]; exact hx)
      refine W_skip ?_
      refine W_seq ?_
      refine W_block ?_
      refine W_seq ?_
      refine W_drawI (cs := []) (gl := [0, 1, 2, 3, 4, 5, 6, 7, 8, 9]) [] (by simp only [zdrop, List.any_cons, List.any_nil, Nat.beq, Bool.or_false, cond_true, cond_false]; exact rfl) rfl rfl ?_
      refine DE_pureW .slnil (want_none rfl) rfl (po_move (ev_t rfl (by (conv => lhs; whnf) <;> rfl))) ?_
      refine DE_pureW .slnil (want_none rfl) rfl (po_move (ev_t rfl (by (conv => lhs; whnf) <;> rfl))) ?_
      refine DE_pureW .slnil (want_none rfl) rfl (po_indexAddrS U31 T3 (ev_t rfl (by (conv => lhs; whnf) <;> rfl)) (by first | exact SlOf.sl | exact SlOf.gr | exact SlOf.rd | exact SlOf.nil | assumption) (ev_t rfl (by (conv => lhs; whnf) <;> rfl)) (by first | omega | (simp only [List.length_map, List.length_append, List.length_cons, List.length_nil] at *; omega)) (show _ = some (int x) by simp [hx]) (by first | exact vcells_gr | exact vcells_rd | exact (SlOf.cells (by assumption)).1 | ((conv => lhs; whnf) <;> rfl)) rfl) ?_
      refine DE_pureW .slnil (want_none rfl) rfl (po_loadR (ev_t rfl (by (conv => lhs; whnf) <;> rfl)) K3 A3) ?_
      refine DE_pureW .slnil (want_none rfl) rfl (po_move (ev_t rfl (by (conv => lhs; whnf) <;> rfl))) ?_
      refine DE_pureW .slnil (want_none rfl) rfl (po_move (ev_t rfl (by (conv => lhs; whnf) <;> rfl))) ?_
      refine DE_pureW .slnil (want_none rfl) rfl (po_sub (ev_t rfl (by (conv => lhs; whnf) <;> rfl)) rfl (by first | omega | (simp only [List.length_map, List.length_append, List.length_cons, List.length_nil] at *; omega))) ?_
      refine DE_pureW .slnil (want_none rfl) rfl (po_indexAddrS U31 T3 (ev_t rfl (by (conv => lhs; whnf) <;> rfl)) (by first | exact SlOf.sl | exact SlOf.gr | exact SlOf.rd | exact SlOf.nil | assumption) (ev_t rfl (by (conv => lhs; whnf) <;> rfl)) (by first | omega | (simp only [List.length_map, List.length_append, List.length_cons, List.length_nil] at *; omega)) (show _ = some (int y) by rw [show ((i : Int) - 1).toNat = i - 1 by omega]; simp [hy]) (by first | exact vcells_gr | exact vcells_rd | exact (SlOf.cells (by assumption)).1 | ((conv => lhs; whnf) <;> rfl)) rfl) ?_
      refine DE_pureW .slnil (want_none rfl) rfl (po_loadR (ev_t rfl (by (conv => lhs; whnf) <;> rfl)) K3 A3) ?_
      refine DE_pureW .slnil (want_none rfl) rfl (po_bin (ev_t rfl (by (conv => lhs; whnf) <;> rfl)) (ev_t rfl (by (conv => lhs; whnf) <;> rfl)) (by (conv => lhs; whnf) <;> rfl)) ?_
      refine DE_known 25 false (by (conv => lhs; whnf) <;> rfl) (by (congr 1; simp; omega)) ?_
      refine DE_nil .slnil ?_
      refine W_else (ev_t rfl (by (conv => lhs; whnf) <;> rfl)) ?_
      refine W_skip ?_
      refine W_inB ?_
      refine W_region rfl ?_
      refine W_pure rfl rfl (po_move (ev_t rfl (by (conv => lhs; whnf) <;> rfl))) ?_
      refine W_pure rfl rfl (po_add (ev_t rfl (by (conv => lhs; whnf) <;> rfl)) rfl (by first | omega | (simp only [List.length_map, List.length_append, List.length_cons, List.length_nil] at *; omega))) ?_
      refine W_pure rfl rfl (po_assign (ev_t rfl (by (conv => lhs; whnf) <;> rfl))) ?_
      refine W_done ?_
      exact ih0 (i + 1) _ _ (by omega) (by omega) (AE 3 (Eq.trans (by (conv => lhs; whnf) <;> rfl) (by first | rfl | (simp; done) | (simp; omega))) AE_nil) (AE 0 (by (conv => lhs; whnf) <;> rfl) (AE 2 (by (conv => lhs; whnf) <;> rfl) AE_nil)) rfl
    · (try simp only [decide_eq_true_eq, decide_eq_false_iff_not, beq_iff_eq, beq_eq_false_iff_ne, bne_iff_ne, ne_eq, bne_eq_false_iff_eq, Bool.not_eq_true', Bool.not_eq_false', Bool.not_eq_true, Bool.not_eq_false, Bool.not_false, Bool.not_true, not_lt, not_le, Int.not_lt, Int.not_le, Decidable.not_not] at g1); (try simp at g1)
      refine W_exit rfl ?_
      refine W_seq ?_
      refine W_region rfl ?_
      refine W_pure rfl rfl (po_move (ev_t rfl (by (conv => lhs; whnf) <;> rfl))) ?_
      refine W_pure rfl rfl (po_assign (ev_t rfl (by (conv => lhs; whnf) <;> rfl))) ?_
      refine W_done ?_
      exact W_ret fun fr σ' hf hz => ends_of (.inr rfl) hf hz rfl (show resOf _ _ _ _ _ from ⟨_, _, rfl, ev_t rfl (by (conv => lhs; whnf) <;> rfl), rfl⟩) rfl fun τ hz2 => by clear hf hz; simp only [packV]; exact sv _ _ _

end Go.Proofs

set_option linter.unusedVariables false
set_option linter.unusedSimpArgs false
set_option maxRecDepth 10000
namespace Go.Proofs
open Go Go.Ev TryT


/-! ### round.openOrder -/
theorem inside_all {lo hi : Int} {l : List Int} (h : ∀ x ∈ l, lo ≤ x ∧ x ≤ hi) : inside lo hi l = true := by
  unfold inside
  rw [Bool.not_eq_true', List.any_eq_false]
  intro x hx
  have := h x hx
  simp
  omega
/-- An order of a round that is right. -/
structure OkOrder (t : Tsk) (order : List Int) : Prop where
  srt : ∃ l', Sorts order l' ∧ l'.Nodup ∧ l'.length = order.length
  within : ∀ x ∈ order, 1 ≤ x ∧ x ≤ t.places.length
  len : order.length ≤ 12

theorem c36 (t : Tsk) (vm vp : V) (tv : TaskV t vm vp) (ok : OkTask t) (order : List Int) (vo : V) (ho : SlOf vo (order.map int)) (oo : OkOrder t order) (σ : St) : Run TC (.app false (.func (.func 36) [] []) [taskV t vm vp, vo]) σ (.val (.tup [taskV t vm vp, int 0])) σ := by
  have htp := tv.places
  have hlo := oo.len
  have hmany := ok.many
  obtain ⟨l', hs, hn, hll⟩ := oo.srt
  refine fn_pure (n := 38) (fn := Try.f36) rfl Try.func36 rfl rfl rfl ?_
  refine W_seq ?_
  refine W_region rfl ?_
  refine W_box rfl rfl rfl (ev_t rfl (by (conv => lhs; whnf) <;> rfl)) (by first | exact vcells_gr | exact vcells_rd | exact (SlOf.cells (by assumption)).1 | ((conv => lhs; whnf) <;> rfl)) fun b2 hb2 => ?_
  refine W_alloc rfl rfl rfl Z119 (fun t h => by cases h) (by (conv => lhs; whnf) <;> rfl) fun b4 hb4 => ?_
  refine W_pure rfl rfl (po_assign rfl) ?_
  refine W_done ?_
  refine W_seq ?_
  refine W_region rfl ?_
  refine W_pure rfl rfl (po_loadA (i := 1) (ev_t rfl (by (conv => lhs; whnf) <;> rfl)) K40 A40 T40 rfl rfl (by simp only [sub]; exact rfl)) ?_
  refine W_call rfl rfl rfl rfl rfl (evl_cons (ev_t rfl (by (conv => lhs; whnf) <;> rfl)) evl_nil) (fun σ hz => c80 t vm vp tv ok σ) ?_
  refine W_pure rfl rfl (po_move (ev_t rfl (by (conv => lhs; whnf) <;> rfl))) ?_
  refine W_pure rfl rfl (po_extract (ev_t rfl (by (conv => lhs; whnf) <;> rfl)) rfl) ?_
  refine W_pure rfl rfl (po_extract (ev_t rfl (by (conv => lhs; whnf) <;> rfl)) rfl) ?_
  refine W_alloc rfl rfl rfl Z119 (fun t h => by cases h) (by (conv => lhs; whnf) <;> rfl) fun b6 hb6 => ?_
  refine W_store (i := 0) rfl rfl rfl (ev_t rfl (by (conv => lhs; whnf) <;> rfl)) (ev_t rfl (by (conv => lhs; whnf) <;> rfl)) rfl (by first | exact vcells_gr | exact vcells_rd | exact (SlOf.cells (by assumption)).1 | ((conv => lhs; whnf) <;> rfl)) T119 rfl rfl (by first | rfl | (simp only [List.all_cons, List.all_nil, vcells, tv.cm, tv.cp]; rfl) | (simp; done) | (simp [cellOK]; done)) (by simp only [wr]; exact rfl) (by simp only [zset]; exact rfl) ?_
  refine W_pure rfl rfl (po_assign (ev_t rfl (by (conv => lhs; whnf) <;> rfl))) ?_
  refine W_done ?_
  refine W_seq ?_
  refine W_seq ?_
  refine W_region rfl ?_
  refine W_pure rfl rfl (po_move (ev_t rfl (by (conv => lhs; whnf) <;> rfl))) ?_
  refine W_pure rfl rfl (po_bin (ev_t rfl (by (conv => lhs; whnf) <;> rfl)) rfl (by (conv => lhs; whnf) <;> rfl)) ?_
  refine W_known 15 false (by (conv => lhs; whnf) <;> rfl) (by first | rfl | (congr 1; simp; done) | (congr 1; simp; omega) | (congr 1; simp only [decide_eq_true_eq, decide_eq_false_iff_not, List.length_map]; omega) | (congr 1; simp_all; done) | (congr 1; simp_all; omega)) ?_
  refine W_done ?_
  refine W_else (ev_t rfl (by (conv => lhs; whnf) <;> rfl)) ?_
  refine W_skip ?_
  refine W_seq ?_
  refine W_region rfl ?_
  refine W_pure rfl rfl (po_move (ev_t rfl (by (conv => lhs; whnf) <;> rfl))) ?_
  refine W_callN rfl rfl rfl rfl rfl (evl_cons (ev_t rfl (by (conv => lhs; whnf) <;> rfl)) evl_nil) (fun σ hz => c82 vo ho.cells.1 σ) fun bq hbq => ?_
  refine W_call rfl rfl rfl rfl rfl (evl_cons (ev_t rfl (by (conv => lhs; whnf) <;> rfl)) evl_nil) (fun σ hz => hs bq vo σ ho (hz.get (i := 0) rfl)) ?_
  refine W_pure rfl rfl (po_assign (ev_t rfl (by (conv => lhs; whnf) <;> rfl))) ?_
  refine W_done ?_
  refine W_seq ?_
  refine W_seq ?_
  refine W_region rfl ?_
  refine W_pure rfl rfl (po_fieldAddr (ev_t rfl (by (conv => lhs; whnf) <;> rfl)) F119_0 T40 (by (conv => lhs; whnf) <;> rfl)) ?_
  refine W_pure rfl rfl (po_fieldAddr (ev_t rfl (by (conv => lhs; whnf) <;> rfl)) F40_1 T38 (by (conv => lhs; whnf) <;> rfl)) ?_
  refine W_pure rfl rfl (po_load (i := 1) (ev_t rfl (by (conv => lhs; whnf) <;> rfl)) K38 A38 rfl rfl) ?_
  refine W_pure rfl rfl (po_lenS rfl U38 (ev_t rfl (by (conv => lhs; whnf) <;> rfl)) (by first | exact SlOf.sl | exact SlOf.gr | exact SlOf.rd | exact SlOf.nil | assumption)) ?_
  refine W_turn 24 (by (conv => lhs; whnf) <;> rfl) (v' := int t.places.length) (by simp) ?_
  refine W_pure rfl rfl (po_move (ev_t rfl (by (conv => lhs; whnf) <;> rfl))) ?_
  refine W_call rfl rfl rfl rfl rfl (evl_cons rfl (evl_cons (ev_t rfl (by (conv => lhs; whnf) <;> rfl)) (evl_cons (ev_t rfl (by (conv => lhs; whnf) <;> rfl)) evl_nil))) (fun σ hz => c83 1 t.places.length order ho (by omega) σ) ?_
  refine W_pure rfl rfl (po_un (ev_t rfl (by (conv => lhs; whnf) <;> rfl)) (by (conv => lhs; whnf) <;> rfl)) ?_
  refine W_known 27 false (by (conv => lhs; whnf) <;> rfl) (by rw [inside_all oo.within]; rfl) ?_
  refine W_pure rfl rfl (po_move (ev_t rfl (by (conv => lhs; whnf) <;> rfl))) ?_
  refine W_yes rfl rfl rfl rfl rfl rfl (po_move (ev_t rfl (by (conv => lhs; whnf) <;> rfl))) ?_
  refine W_yesCall rfl rfl rfl rfl rfl rfl rfl rfl rfl (evl_cons (ev_t rfl (by (conv => lhs; whnf) <;> rfl)) evl_nil) (fun σ hz => c84 l' hn _ SlOf.rd (Still.rd (by simp [Still.int])) (by omega) σ) ?_
  refine W_yes rfl rfl rfl rfl rfl rfl (po_lenS rfl U31 (ev_t rfl (by (conv => lhs; whnf) <;> rfl)) (by first | exact SlOf.sl | exact SlOf.gr | exact SlOf.rd | exact SlOf.nil | assumption)) ?_
  refine W_yes rfl rfl rfl rfl rfl rfl (po_move (ev_t rfl (by (conv => lhs; whnf) <;> rfl))) ?_
  refine W_yes rfl rfl rfl rfl rfl rfl (po_lenS rfl U31 (ev_t rfl (by (conv => lhs; whnf) <;> rfl)) (by first | exact SlOf.sl | exact SlOf.gr | exact SlOf.rd | exact SlOf.nil | assumption)) ?_
  refine W_yes rfl rfl rfl rfl rfl rfl (po_bin (ev_t rfl (by (conv => lhs; whnf) <;> rfl)) (ev_t rfl (by (conv => lhs; whnf) <;> rfl)) (by (conv => lhs; whnf) <;> rfl)) ?_
  refine W_known 34 false (by (conv => lhs; whnf) <;> rfl) (by (congr 1; simp; omega)) ?_
  refine W_pure rfl rfl (po_pickF (ev_t rfl (by (conv => lhs; whnf) <;> rfl)) (ev_t rfl (by (conv => lhs; whnf) <;> rfl))) ?_
  refine W_done ?_
  refine W_else (ev_t rfl (by (conv => lhs; whnf) <;> rfl)) ?_
  refine W_skip ?_
  refine W_seq ?_
  refine W_region rfl ?_
  refine W_pure rfl rfl (po_loadA (i := 1) (ev_t rfl (by (conv => lhs; whnf) <;> rfl)) K119 A119 T119 rfl rfl (by simp only [sub]; exact rfl)) ?_
  refine W_store (i := 2) rfl rfl rfl (ev_t rfl (by (conv => lhs; whnf) <;> rfl)) (ev_t rfl (by (conv => lhs; whnf) <;> rfl)) rfl (by first | exact vcells_gr | exact vcells_rd | exact (SlOf.cells (by assumption)).1 | ((conv => lhs; whnf) <;> rfl)) T119 rfl rfl (by first | rfl | (simp only [List.all_cons, List.all_nil, vcells, tv.cm, tv.cp]; rfl) | (simp; done) | (simp [cellOK]; done)) (by simp only [wr]; exact rfl) (by simp only [zset]; exact rfl) ?_
  refine W_pure rfl rfl (po_assign rfl) ?_
  refine W_done ?_
  exact W_ret fun fr σ' hf hz => ends_of (.inr rfl) hf hz rfl (show resOf _ _ _ _ _ from ⟨_, _, rfl, po_loadA (i := 2) (ev_t rfl (by (conv => lhs; whnf) <;> rfl)) K119 A119 T119 rfl rfl (by simp only [sub]; exact rfl), ⟨_, _, rfl, ev_t rfl (by (conv => lhs; whnf) <;> rfl), rfl⟩⟩) rfl fun τ hz2 => by clear hf hz; simp [packV, Ev.freeze, Ev.freeze.frL, tv.fm, tv.fp]


/-! ### The roads of a round -/
structure Leg where
  number : Int
  from_ : Int
  to : Int
  load : Int
  leaves : Int × Int
  comes : Int × Int
abbrev leg (l : Leg) : V := .agg [int l.number, int l.from_, int l.to, int l.load, int l.leaves.1, int l.leaves.2, int l.comes.1, int l.comes.2]
/-- Where the cart is, with what, and when it leaves. -/
structure LS where
  at_ : Int
  load : Int
  lv : Int × Int
def minOf (t : Tsk) (a b : Int) : Int × Int := ((t.minutes[a.toNat]?.getD [])[b.toNat]?).getD (0, 0)
def plOf (t : Tsk) (p : Int) : Pl := (t.places[(p - 1).toNat]?).getD ⟨0, 0, 0, 0, 0⟩
def comesTo (t : Tsk) (s : LS) (to : Int) : Int × Int := (s.lv.1 + (minOf t s.at_ to).1, s.lv.2 + (minOf t s.at_ to).2)
def lstep (t : Tsk) (s : LS) (o : Int) : LS :=
  ⟨o, s.load + ((plOf t o).fetched - (plOf t o).brought), (if (plOf t o).ready > (comesTo t s o).1 then (plOf t o).ready else (comesTo t s o).1) + (plOf t o).stop, (if (plOf t o).ready > (comesTo t s o).2 then (plOf t o).ready else (comesTo t s o).2) + (plOf t o).stop⟩
def load0 (t : Tsk) (order : List Int) : Int := (order.map fun p => (plOf t p).brought).sum
def ls0 (t : Tsk) (order : List Int) : LS := ⟨0, load0 t order, t.leaves, t.leaves⟩
def lsAt (t : Tsk) (order : List Int) (i : Nat) : LS := (order.take i).foldl (lstep t) (ls0 t order)
def toAt (order : List Int) (i : Nat) : Int := (order[i]?).getD 0
def legAt (t : Tsk) (order : List Int) (i : Nat) : Leg := ⟨i, (lsAt t order i).at_, toAt order i, (lsAt t order i).load, (lsAt t order i).lv, comesTo t (lsAt t order i) (toAt order i)⟩
def legsL (t : Tsk) (order : List Int) : List Leg := (List.range (order.length + 1)).map (legAt t order)
theorem lsAt_succ {t : Tsk} {order : List Int} {i : Nat} {x : Int} (h : order[i]? = some x) : lsAt t order (i + 1) = lstep t (lsAt t order i) x := by
  unfold lsAt
  rw [List.take_add_one, h]
  simp
theorem toAt_of {order : List Int} {i : Nat} {x : Int} (h : order[i]? = some x) : toAt order i = x := by simp [toAt, h]

theorem c37 (v1 v2 v3 v4 v5 vo : V) (h1 : vcells vo = [vo]) (hk : cellOK vo = true) (σ : St) : ∃ b1 b2 σ', σ.length ≤ b1 ∧ σ.length ≤ b2 ∧ b1 ≠ b2 ∧ Grows σ σ' ∧ σ'[b1]? = some (.cells 119 [v1, v2, v3, v4, v5]) ∧ σ'[b2]? = some (.cells 31 [vo]) ∧
    Run TC (.app false (.func (.func 37) [] []) [.agg [v1, v2, v3, v4, v5], vo]) σ (.val (.func (.func 85) [] [.ptr b1 0, .ptr b2 0])) σ' := by
  have hN := fn_new (C := TC) (g := 37) (first := []) (cap := []) (args := [.agg [v1, v2, v3, v4, v5], vo]) (σ := σ) (R := fun u σ' => ∃ b1 b2, σ.length ≤ b1 ∧ σ.length ≤ b2 ∧ b1 ≠ b2 ∧ u = .func (.func 85) [] [.ptr b1 0, .ptr b2 0] ∧ σ'[b1]? = some (.cells 119 [v1, v2, v3, v4, v5]) ∧ σ'[b2]? = some (.cells 31 [vo])) (n := 6) (fn := Try.f37) rfl Try.func37 rfl rfl rfl (by
    refine W_seq ?_
    refine W_region rfl ?_
    refine W_box rfl rfl rfl (ev_t rfl (by (conv => lhs; whnf) <;> rfl)) (by first | exact vcells_gr | exact vcells_rd | exact (SlOf.cells (by assumption)).1 | ((conv => lhs; whnf) <;> rfl)) fun b2 hb2 => ?_
    refine W_box rfl rfl rfl (ev_t rfl (by (conv => lhs; whnf) <;> rfl)) h1 fun b3 hb3 => ?_
    refine W_pure rfl rfl (po_assign rfl) ?_
    refine W_done ?_
    refine W_seq ?_
    refine W_region rfl ?_
    refine W_pure rfl rfl (po_func evl_nil (evl_cons (ev_t rfl (by (conv => lhs; whnf) <;> rfl)) (evl_cons (ev_t rfl (by (conv => lhs; whnf) <;> rfl)) evl_nil))) ?_
    refine W_pure rfl rfl (po_assign (ev_t rfl (by (conv => lhs; whnf) <;> rfl))) ?_
    refine W_done ?_
    exact W_ret fun fr σ' hf hz => endsN_of (.inr rfl) hf hz rfl (show resOf _ _ _ _ _ from ⟨_, _, rfl, ev_t rfl (by (conv => lhs; whnf) <;> rfl), rfl⟩) rfl fun σ2 hz2 => ⟨by have : ¬ b2 < σ.length := Nat.not_lt.2 hb2; simp [packV, Ev.freeze, Ev.freeze.frL, this], b2, b3, hb2, hb3, (by have := hz2.nd; simp at this; omega), rfl, hz2.get (i := 1) rfl, hz2.get (i := 0) rfl⟩)
  obtain ⟨u, σ', hr, hg, b1, b2, h1, h2, h3, rfl, h4, h5⟩ := hN; exact ⟨b1, b2, σ', h1, h2, h3, hg, h4, h5, hr⟩

end Go.Proofs

set_option linter.unusedVariables false
set_option linter.unusedSimpArgs false
set_option maxRecDepth 10000
namespace Go.Proofs
open Go Go.Ev TryT


structure OkLegs (t : Tsk) (order : List Int) : Prop where
  body : OkBody t
  lv : 0 ≤ t.leaves ∧ t.leaves ≤ 20000
  within : ∀ x ∈ order, 1 ≤ x ∧ x ≤ t.places.length
  len : order.length ≤ 12
theorem plOf_get {t : Tsk} (ob : OkBody t) {x : Int} (h : 1 ≤ x ∧ x ≤ t.places.length) : t.places[(x - 1).toNat]? = some (plOf t x) ∧ okPlace (plOf t x) := by
  have hlt : (x - 1).toNat < t.places.length := by omega
  have e : t.places[(x - 1).toNat]? = some t.places[(x - 1).toNat] := List.getElem?_eq_getElem hlt
  have e2 : plOf t x = t.places[(x - 1).toNat] := by unfold plOf; rw [e]; rfl
  rw [e2]
  exact ⟨e, ob.place _ (List.getElem_mem hlt)⟩
theorem minOf_get {t : Tsk} (ob : OkBody t) {a b : Int} (ha : 0 ≤ a ∧ a ≤ t.places.length) (hb : 0 ≤ b ∧ b ≤ t.places.length) : ∃ row, t.minutes[a.toNat]? = some row ∧ row[b.toNat]? = some (minOf t a b) ∧ okSpan (minOf t a b) := by
  have hl := ob.len
  have hlt : a.toNat < t.minutes.length := by omega
  have e : t.minutes[a.toNat]? = some t.minutes[a.toNat] := List.getElem?_eq_getElem hlt
  have hm := List.getElem_mem hlt
  have hr := ob.row _ hm
  have hlt2 : b.toNat < (t.minutes[a.toNat]).length := by omega
  have e2 : (t.minutes[a.toNat])[b.toNat]? = some (t.minutes[a.toNat])[b.toNat] := List.getElem?_eq_getElem hlt2
  have e3 : minOf t a b = (t.minutes[a.toNat])[b.toNat] := by unfold minOf; rw [e, Option.getD_some, e2]; rfl
  exact ⟨_, e, by rw [e3]; exact e2, by rw [e3]; exact ob.span _ hm _ (List.getElem_mem hlt2)⟩
def ldAt (t : Tsk) (order : List Int) (i : Nat) : Int := ((order.take i).map fun p => (plOf t p).brought).sum
theorem ldAt_succ {t : Tsk} {order : List Int} {i : Nat} {x : Int} (h : order[i]? = some x) : ldAt t order (i + 1) = ldAt t order i + (plOf t x).brought := by
  unfold ldAt
  rw [List.take_add_one, h]
  simp
theorem ldAt_ok {t : Tsk} {order : List Int} (h : OkLegs t order) : ∀ i, i ≤ order.length → 0 ≤ ldAt t order i ∧ ldAt t order i ≤ 100 * i
  | 0, _ => by simp [ldAt]
  | i + 1, hi => by
    have ih := ldAt_ok h i (by omega)
    obtain ⟨x, hx⟩ : ∃ x, order[i]? = some x := ⟨_, List.getElem?_eq_getElem (by omega)⟩
    have hp : okPlace (plOf t x) := (plOf_get h.body (h.within x (List.mem_of_getElem? hx))).2
    rw [ldAt_succ hx]
    unfold okPlace at hp
    omega
theorem load0_eq {t : Tsk} {order : List Int} : load0 t order = ldAt t order order.length := by simp [load0, ldAt]
theorem ifmax (a b : Int) : (if a > b then a else b) = max a b := by
  rcases Int.lt_or_le b a with h | h
  · rw [if_pos h]; omega
  · rw [if_neg (by omega)]; omega
theorem ls_ok {t : Tsk} {order : List Int} (h : OkLegs t order) : ∀ i, i ≤ order.length → 0 ≤ (lsAt t order i).at_ ∧ (lsAt t order i).at_ ≤ t.places.length ∧ 0 ≤ (lsAt t order i).lv.1 ∧ (lsAt t order i).lv.1 ≤ 20000 + 6000 * i ∧ 0 ≤ (lsAt t order i).lv.2 ∧ (lsAt t order i).lv.2 ≤ 20000 + 6000 * i ∧ - 100 * (i : Int) ≤ (lsAt t order i).load ∧ (lsAt t order i).load ≤ 1200 + 100 * i
  | 0, _ => by
    have := h.lv
    have h0 := ldAt_ok h order.length (Nat.le_refl _)
    have hl := h.len
    rw [← load0_eq] at h0
    simp [lsAt, ls0]
    omega
  | i + 1, hi => by
    have ih := ls_ok h i (by omega)
    obtain ⟨x, hx⟩ : ∃ x, order[i]? = some x := ⟨_, List.getElem?_eq_getElem (by omega)⟩
    have hw := h.within x (List.mem_of_getElem? hx)
    have hp : okPlace (plOf t x) := (plOf_get h.body hw).2
    obtain ⟨row, -, -, hm⟩ := minOf_get h.body (a := (lsAt t order i).at_) (b := x) (by omega) (by omega)
    rw [lsAt_succ hx]
    unfold okPlace at hp
    unfold okSpan at hm
    simp only [lstep, comesTo, ifmax]
    refine ⟨?_, ?_, ?_, ?_, ?_, ?_, ?_, ?_⟩ <;> omega
theorem legs_at {t : Tsk} {order : List Int} {i : Nat} (h : i ≤ order.length) : ((legsL t order).map leg)[i]? = some (leg (legAt t order i)) := by
  simp [legsL, List.getElem?_range (show i < order.length + 1 by omega)]

theorem it85 (t : Tsk) (vm vp : V) (tv : TaskV t vm vp) (order : List Int) (vo : V) (ho : SlOf vo (order.map int)) (ol : OkLegs t order) (b1 b2 : Nat) :
    IterSpec TC (fun σ => σ[b1]? = some (.cells 119 [vm, vp, int t.holds, int t.leaves, int t.back]) ∧ σ[b2]? = some (.cells 31 [vo])) (.func (.func 85) [] [.ptr b1 0, .ptr b2 0]) ((legsL t order).map leg) [b1, b2] := by
  intro m lp σ Kb I J hσf hneed hKb hIl hJl hI0 hstep
  have hb1 : b1 ∉ Kb := hneed b1 (by simp)
  have hb2 : b2 ∉ Kb := hneed b2 (by simp)
  have hlv := ol.lv
  have hlen := ol.len
  have hmany := ol.body.many
  have htp := tv.places
  obtain ⟨rs, hrs, hrl, hrr⟩ := tv.rows
  refine fn_iter (m := m) (n := 114) (fn := Try.f85) (A := I 0) (R := fun σ' => I ((legsL t order).map leg).length σ' ∨ ∃ i, i < ((legsL t order).map leg).length ∧ J i σ') rfl Try.func85 rfl rfl rfl hKb hI0 (hIl 0) (fun σ1 σ2 he h => by
    rcases h with h | ⟨i, hi, h⟩
    · exact .inl (hIl _ σ1 σ2 he h)
    · exact .inr ⟨i, hi, hJl _ σ1 σ2 he h⟩) ?_
  refine W_seq ?_
  refine W_region rfl ?_
  refine W_pure rfl rfl (po_fieldAddr (ev_t rfl (by (conv => lhs; whnf) <;> rfl)) F119_0 T40 (by (conv => lhs; whnf) <;> rfl)) ?_
  refine W_pure rfl rfl (po_fieldAddr (ev_t rfl (by (conv => lhs; whnf) <;> rfl)) F40_3 T3 (by (conv => lhs; whnf) <;> rfl)) ?_
  refine W_pure rfl rfl (po_loadO (ev_t rfl (by (conv => lhs; whnf) <;> rfl)) K3 A3 hσf.1 hb1 rfl) ?_
  refine W_call rfl rfl rfl rfl rfl (evl_cons (ev_t rfl (by (conv => lhs; whnf) <;> rfl)) evl_nil) (fun σ hz => c86 t.leaves σ) ?_
  refine W_pure rfl rfl (po_struct (evp_cons (ev_t rfl (by (conv => lhs; whnf) <;> rfl)) evp_nil) Z125 P125 rfl (by simp only [lay, nth, wr, vcells]; exact rfl)) ?_
  refine W_alloc rfl rfl rfl Z125 (fun t h => by cases h) (by (conv => lhs; whnf) <;> rfl) fun b4 hb4 => ?_
  refine W_store (i := 0) rfl rfl rfl (ev_t rfl (by (conv => lhs; whnf) <;> rfl)) (ev_t rfl (by (conv => lhs; whnf) <;> rfl)) rfl (by first | exact vcells_gr | exact vcells_rd | exact (SlOf.cells (by assumption)).1 | ((conv => lhs; whnf) <;> rfl)) T125 rfl rfl (by first | rfl | (simp; done) | (simp [cellOK]; done)) (by simp only [wr]; exact rfl) (by simp only [zset]; exact rfl) ?_
  refine W_done ?_
  refine W_seq ?_
  refine W_seq ?_
  refine W_region rfl ?_
  refine W_pure rfl rfl (po_loadO (ev_t rfl (by (conv => lhs; whnf) <;> rfl)) K31 A31 hσf.2 hb2 rfl) ?_
  refine W_pure rfl rfl (po_lenS rfl U31 (ev_t rfl (by (conv => lhs; whnf) <;> rfl)) (by first | exact SlOf.sl | exact SlOf.gr | exact SlOf.rd | exact SlOf.nil | assumption)) ?_
  refine W_turn 15 (by (conv => lhs; whnf) <;> rfl) (v' := int order.length) (by simp) ?_
  refine W_pure rfl rfl (po_move rfl) ?_
  refine W_done ?_
  refine W_block ?_
  refine W_loopI (S := Nat) (fun i => [(16, int i)]) [0] (fun i => [.cells 125 [int 0, int 0, int 0, int (ldAt t order i), int t.leaves, int t.leaves, int 0, int 0]]) (fun i => i ≤ order.length) (fun i => order.length - i) (0) (AE 0 (by (conv => lhs; whnf) <;> rfl) (AE 1 (by (conv => lhs; whnf) <;> rfl) (AE 2 (by (conv => lhs; whnf) <;> rfl) (AE 4 (by (conv => lhs; whnf) <;> rfl) (AE 14 (by (conv => lhs; whnf) <;> rfl) (AE 15 (by (conv => lhs; whnf) <;> rfl) AE_nil)))))) (AE 16 (Eq.trans (by (conv => lhs; whnf) <;> rfl) (by first | rfl | (simp; done) | (simp; omega))) AE_nil) (by simp [zsets, zset, grSl_nilT, grSl_nilF, ldAt]) (Nat.zero_le _) ?_
  rintro i j0 hI0 ih0
  have hld := ldAt_ok ol i hI0
  refine W_eqZ (by simp only [zsets, zset]; exact rfl) ?_
  refine W_seq ?_
  refine W_region rfl ?_
  refine W_pure rfl rfl (po_bin (ev_t rfl (by (conv => lhs; whnf) <;> rfl)) (ev_t rfl (by (conv => lhs; whnf) <;> rfl)) (by (conv => lhs; whnf) <;> rfl)) ?_
  refine W_done ?_
  refine W_seq ?_
  refine W_if (ev_t rfl (by (conv => lhs; whnf) <;> rfl)) (fun g0 => ?_) (fun g0 => ?_)
  · (try simp only [decide_eq_true_eq, decide_eq_false_iff_not, beq_iff_eq, beq_eq_false_iff_ne, bne_iff_ne, ne_eq, bne_eq_false_iff_eq, Bool.not_eq_true', Bool.not_eq_false', Bool.not_eq_true, Bool.not_eq_false, Bool.not_false, Bool.not_true, not_lt, not_le, Int.not_lt, Int.not_le, Decidable.not_not] at g0); (try simp at g0)
    have hlt : i < order.length := by omega
    obtain ⟨x, hx⟩ : ∃ x, order[i]? = some x := ⟨_, List.getElem?_eq_getElem hlt⟩
    have hxw := ol.within x (List.mem_of_getElem? hx)
    obtain ⟨hpg, hpo⟩ := plOf_get ol.body hxw
    have hpo2 : 0 ≤ (plOf t x).brought ∧ (plOf t x).brought ≤ 100 := by (unfold okPlace at hpo; omega)
    refine W_skip ?_
    refine W_seq ?_
    refine W_block ?_
    refine W_seq ?_
    refine W_region rfl ?_
    refine W_pure rfl rfl (po_indexAddrS U31 T3 (ev_t rfl (by (conv => lhs; whnf) <;> rfl)) (by first | exact SlOf.sl | exact SlOf.gr | exact SlOf.rd | exact SlOf.nil | assumption) (ev_t rfl (by (conv => lhs; whnf) <;> rfl)) (by first | omega | (simp only [List.length_map, List.length_append, List.length_cons, List.length_nil] at *; omega)) (show _ = some (int x) by simp [hx]) (by first | exact vcells_gr | exact vcells_rd | exact (SlOf.cells (by assumption)).1 | ((conv => lhs; whnf) <;> rfl)) rfl) ?_
    refine W_pure rfl rfl (po_loadR (ev_t rfl (by (conv => lhs; whnf) <;> rfl)) K3 A3) ?_
    refine W_pure rfl rfl (po_assign (ev_t rfl (by (conv => lhs; whnf) <;> rfl))) ?_
    refine W_done ?_
    refine W_drawI (cs := [12]) (gl := [0, 1, 2, 3, 4, 5, 6, 7, 8, 9, 10, 11, 12]) [0] (by simp only [zdrop, List.any_cons, List.any_nil, Nat.beq, Bool.or_false, cond_true, cond_false]; exact rfl) rfl rfl ?_
    refine DE_pureW (.cons _ .slnil) (want_none rfl) rfl (po_fieldAddr (ev_t rfl (by (conv => lhs; whnf) <;> rfl)) F125_3 T3 (by (conv => lhs; whnf) <;> rfl)) ?_
    refine DE_locW (.cons _ .slnil) rfl (want_none rfl) rfl (po_load (i := 0) (ev_t rfl (by (conv => lhs; whnf) <;> rfl)) K3 A3 rfl rfl) ?_
    refine DE_pureW (.cons _ .slnil) (want_none rfl) rfl (po_fieldAddr (ev_t rfl (by (conv => lhs; whnf) <;> rfl)) F119_0 T40 (by (conv => lhs; whnf) <;> rfl)) ?_
    refine DE_pureW (.cons _ .slnil) (want_none rfl) rfl (po_fieldAddr (ev_t rfl (by (conv => lhs; whnf) <;> rfl)) F40_1 T38 (by (conv => lhs; whnf) <;> rfl)) ?_
    refine DE_pureW (.cons _ .slnil) (want_none rfl) rfl (po_loadO (ev_t rfl (by (conv => lhs; whnf) <;> rfl)) K38 A38 hσf.1 hb1 rfl) ?_
    refine DE_pureW (.cons _ .slnil) (want_none rfl) rfl (po_move (ev_t rfl (by (conv => lhs; whnf) <;> rfl))) ?_
    refine DE_pureW (.cons _ .slnil) (want_none rfl) rfl (po_sub (ev_t rfl (by (conv => lhs; whnf) <;> rfl)) rfl (by first | omega | (simp only [List.length_map, List.length_append, List.length_cons, List.length_nil] at *; omega))) ?_
    refine DE_pureW (.cons _ .slnil) (want_none rfl) rfl (po_indexAddrS U38 T117 (ev_t rfl (by (conv => lhs; whnf) <;> rfl)) (by first | exact SlOf.sl | exact SlOf.gr | exact SlOf.rd | exact SlOf.nil | assumption) (ev_t rfl (by (conv => lhs; whnf) <;> rfl)) (by first | omega | (simp only [List.length_map, List.length_append, List.length_cons, List.length_nil] at *; omega)) (show _ = some (place (plOf t x)) by rw [List.getElem?_map, hpg]; rfl) (by first | exact vcells_gr | exact vcells_rd | exact (SlOf.cells (by assumption)).1 | ((conv => lhs; whnf) <;> rfl)) rfl) ?_
    refine DE_pureW (.cons _ .slnil) (want_none rfl) rfl (po_fieldAddrR (ev_t rfl (by (conv => lhs; whnf) <;> rfl)) F117_3 T3 (by simp only [List.drop_succ_cons, List.drop_zero]; exact rfl)) ?_
    refine DE_pureW (.cons _ .slnil) (want_none rfl) rfl (po_loadR (ev_t rfl (by (conv => lhs; whnf) <;> rfl)) K3 A3) ?_
    refine DE_pureW (.cons _ .slnil) (want_none rfl) rfl (po_add (ev_t rfl (by (conv => lhs; whnf) <;> rfl)) (ev_t rfl (by (conv => lhs; whnf) <;> rfl)) (by first | omega | (simp only [List.length_map, List.length_append, List.length_cons, List.length_nil] at *; omega))) ?_
    refine DE_pureW (.cons _ .slnil) (want_none rfl) rfl (po_fieldAddr (ev_t rfl (by (conv => lhs; whnf) <;> rfl)) F125_3 T3 (by (conv => lhs; whnf) <;> rfl)) ?_
    refine DE_eff0 (.cons _ .slnil) (want_none rfl) rfl rfl (eff_store (i := 0) (ev_t rfl (by (conv => lhs; whnf) <;> rfl)) (ev_t rfl (by (conv => lhs; whnf) <;> rfl)) rfl (by first | exact vcells_gr | exact vcells_rd | exact (SlOf.cells (by assumption)).1 | ((conv => lhs; whnf) <;> rfl)) T3 rfl rfl (by first | rfl | (simp; done) | (simp [cellOK]; done)) (by simp only [wr]; exact rfl) (by simp only [zset]; exact rfl)) fun _ h_ => ?_
    refine DE_nil (.cons _ .slnil) ?_
    refine W_inB ?_
    refine W_region rfl ?_
    refine W_pure rfl rfl (po_add (ev_t rfl (by (conv => lhs; whnf) <;> rfl)) rfl (by first | omega | (simp only [List.length_map, List.length_append, List.length_cons, List.length_nil] at *; omega))) ?_
    refine W_pure rfl rfl (po_move (ev_t rfl (by (conv => lhs; whnf) <;> rfl))) ?_
    refine W_done ?_
    exact ih0 (i + 1) _ _ (by omega) (by omega) (AE 16 (Eq.trans (by (conv => lhs; whnf) <;> rfl) (by first | rfl | (simp; done) | (simp; omega))) AE_nil) (AE 0 (by (conv => lhs; whnf) <;> rfl) (AE 1 (by (conv => lhs; whnf) <;> rfl) (AE 2 (by (conv => lhs; whnf) <;> rfl) (AE 4 (by (conv => lhs; whnf) <;> rfl) (AE 14 (by (conv => lhs; whnf) <;> rfl) (AE 15 (by (conv => lhs; whnf) <;> rfl) AE_nil)))))) (by simp [zsets, zset, ldAt_succ hx])
  · (try simp only [decide_eq_true_eq, decide_eq_false_iff_not, beq_iff_eq, beq_eq_false_iff_ne, bne_iff_ne, ne_eq, bne_eq_false_iff_eq, Bool.not_eq_true', Bool.not_eq_false', Bool.not_eq_true, Bool.not_eq_false, Bool.not_false, Bool.not_true, not_lt, not_le, Int.not_lt, Int.not_le, Decidable.not_not] at g0); (try simp at g0)
    have hend0 : i = order.length := by omega
    subst hend0
    rw [← load0_eq] at hld
    refine W_exit rfl ?_
    refine W_seq ?_
    refine W_region rfl ?_
    refine W_pure rfl rfl (po_loadO (ev_t rfl (by (conv => lhs; whnf) <;> rfl)) K31 A31 hσf.2 hb2 rfl) ?_
    refine W_pure rfl rfl (po_lenS rfl U31 (ev_t rfl (by (conv => lhs; whnf) <;> rfl)) (by first | exact SlOf.sl | exact SlOf.gr | exact SlOf.rd | exact SlOf.nil | assumption)) ?_
    refine W_turn 34 (by (conv => lhs; whnf) <;> rfl) (v' := int order.length) (by simp) ?_
    refine W_pure rfl rfl (po_add (ev_t rfl (by (conv => lhs; whnf) <;> rfl)) rfl (by first | omega | (simp only [List.length_map, List.length_append, List.length_cons, List.length_nil] at *; omega))) ?_
    refine W_pure rfl rfl (po_move rfl) ?_
    refine W_done ?_
    refine W_block ?_
    refine W_loopY (S := Nat × V × V × V × V) (fun ⟨i, n, o, c1, c2⟩ => I i) (fun ⟨i, n, o, c1, c2⟩ => [(36, int i)]) [0] (fun ⟨i, n, o, c1, c2⟩ => [.cells 125 [n, int (lsAt t order i).at_, o, int (lsAt t order i).load, int (lsAt t order i).lv.1, int (lsAt t order i).lv.2, c1, c2]]) (fun ⟨i, n, o, c1, c2⟩ => i ≤ order.length ∧ True) (fun ⟨i, n, o, c1, c2⟩ => order.length - i) (0, int 0, int 0, int 0, int 0) (AE 0 (by (conv => lhs; whnf) <;> rfl) (AE 1 (by (conv => lhs; whnf) <;> rfl) (AE 2 (by (conv => lhs; whnf) <;> rfl) (AE 4 (by (conv => lhs; whnf) <;> rfl) (AE 35 (by (conv => lhs; whnf) <;> rfl) AE_nil))))) (AE 36 (Eq.trans (by (conv => lhs; whnf) <;> rfl) (by first | rfl | (simp; done) | (simp; omega))) AE_nil) (by simp [zsets, zset, grSl_nilT, grSl_nilF, lsAt, ls0, load0_eq]) (⟨Nat.zero_le _, trivial⟩) ?_
    rintro ⟨i, n, o, c1, c2⟩ j1 hI1 ih1
    simp only at hI1 ⊢
    have hls := ls_ok ol i hI1.1
    obtain ⟨r, hr⟩ : ∃ r, rs[(lsAt t order i).at_.toNat]? = some r := ⟨_, List.getElem?_eq_getElem (by have := ol.body.len; omega)⟩
    refine W_eqZ (by simp only [zsets, zset]; exact rfl) ?_
    refine W_seq ?_
    refine W_region rfl ?_
    refine W_pure rfl rfl (po_bin (ev_t rfl (by (conv => lhs; whnf) <;> rfl)) (ev_t rfl (by (conv => lhs; whnf) <;> rfl)) (by (conv => lhs; whnf) <;> rfl)) ?_
    refine W_known 37 true (by (conv => lhs; whnf) <;> rfl) (by first | rfl | (congr 1; simp; done) | (congr 1; simp; omega) | (congr 1; simp only [decide_eq_true_eq, decide_eq_false_iff_not, List.length_map]; omega) | (congr 1; simp_all; done) | (congr 1; simp_all; omega)) ?_
    refine W_done ?_
    refine W_seq ?_
    refine W_then (ev_t rfl (by (conv => lhs; whnf) <;> rfl)) ?_
    refine W_skip ?_
    refine W_seq ?_
    refine W_block ?_
    refine W_seq ?_
    refine W_region rfl ?_
    refine W_pure rfl rfl (po_move (ev_t rfl (by (conv => lhs; whnf) <;> rfl))) ?_
    refine W_pure rfl rfl (po_assign (ev_t rfl (by (conv => lhs; whnf) <;> rfl))) ?_
    refine W_done ?_
    refine W_seq ?_
    refine W_seq ?_
    refine W_region rfl ?_
    refine W_pure rfl rfl (po_move (ev_t rfl (by (conv => lhs; whnf) <;> rfl))) ?_
    refine W_pure rfl rfl (po_fieldAddr (ev_t rfl (by (conv => lhs; whnf) <;> rfl)) F125_0 T3 (by (conv => lhs; whnf) <;> rfl)) ?_
    refine W_store (i := 0) rfl rfl rfl (ev_t rfl (by (conv => lhs; whnf) <;> rfl)) (ev_t rfl (by (conv => lhs; whnf) <;> rfl)) rfl (by first | exact vcells_gr | exact vcells_rd | exact (SlOf.cells (by assumption)).1 | ((conv => lhs; whnf) <;> rfl)) T3 rfl rfl (by first | rfl | (simp; done) | (simp [cellOK]; done)) (by simp only [wr]; exact rfl) (by simp only [zset]; exact rfl) ?_
    refine W_pure rfl rfl (po_fieldAddr (ev_t rfl (by (conv => lhs; whnf) <;> rfl)) F125_2 T3 (by (conv => lhs; whnf) <;> rfl)) ?_
    refine W_store (i := 0) rfl rfl rfl (ev_t rfl (by (conv => lhs; whnf) <;> rfl)) rfl rfl (by first | exact vcells_gr | exact vcells_rd | exact (SlOf.cells (by assumption)).1 | ((conv => lhs; whnf) <;> rfl)) T3 rfl rfl (by first | rfl | (simp; done) | (simp [cellOK]; done)) (by simp only [wr]; exact rfl) (by simp only [zset]; exact rfl) ?_
    refine W_done ?_
    refine W_seq ?_
    refine W_region rfl ?_
    refine W_pure rfl rfl (po_move (ev_t rfl (by (conv => lhs; whnf) <;> rfl))) ?_
    refine W_pure rfl rfl (po_loadO (ev_t rfl (by (conv => lhs; whnf) <;> rfl)) K31 A31 hσf.2 hb2 rfl) ?_
    refine W_pure rfl rfl (po_lenS rfl U31 (ev_t rfl (by (conv => lhs; whnf) <;> rfl)) (by first | exact SlOf.sl | exact SlOf.gr | exact SlOf.rd | exact SlOf.nil | assumption)) ?_
    refine W_turn 44 (by (conv => lhs; whnf) <;> rfl) (v' := int order.length) (by simp) ?_
    refine W_pure rfl rfl (po_bin (ev_t rfl (by (conv => lhs; whnf) <;> rfl)) (ev_t rfl (by (conv => lhs; whnf) <;> rfl)) (by (conv => lhs; whnf) <;> rfl)) ?_
    refine W_done ?_
    refine W_if (ev_t rfl (by (conv => lhs; whnf) <;> rfl)) (fun g1 => ?_) (fun g1 => ?_)
    · (try simp only [decide_eq_true_eq, decide_eq_false_iff_not, beq_iff_eq, beq_eq_false_iff_ne, bne_iff_ne, ne_eq, bne_eq_false_iff_eq, Bool.not_eq_true', Bool.not_eq_false', Bool.not_eq_true, Bool.not_eq_false, Bool.not_false, Bool.not_true, not_lt, not_le, Int.not_lt, Int.not_le, Decidable.not_not] at g1); (try simp at g1)
      have hlt : i < order.length := by omega
      obtain ⟨x, hx⟩ : ∃ x, order[i]? = some x := ⟨_, List.getElem?_eq_getElem hlt⟩
      have hxw := ol.within x (List.mem_of_getElem? hx)
      obtain ⟨hpg, hpo⟩ := plOf_get ol.body hxw
      have hpo2 : 0 ≤ (plOf t x).ready ∧ (plOf t x).ready ≤ 5000 ∧ 0 ≤ (plOf t x).stop ∧ (plOf t x).stop ≤ 600 ∧ 0 ≤ (plOf t x).brought ∧ (plOf t x).brought ≤ 100 ∧ 0 ≤ (plOf t x).fetched ∧ (plOf t x).fetched ≤ 100 := by (unfold okPlace at hpo; omega)
      obtain ⟨row, hrow, hms, hmo⟩ := minOf_get ol.body (a := (lsAt t order i).at_) (b := x) (by omega) (by omega)
      have hr1 := hrr _ r row hr hrow
      have hmo2 : 0 ≤ (minOf t (lsAt t order i).at_ x).1 ∧ (minOf t (lsAt t order i).at_ x).1 ≤ (minOf t (lsAt t order i).at_ x).2 ∧ (minOf t (lsAt t order i).at_ x).2 ≤ 600 := hmo
      have hlegv : leg (legAt t order i) = .agg [int i, int (lsAt t order i).at_, int x, int (lsAt t order i).load, int (lsAt t order i).lv.1, int (lsAt t order i).lv.2, int ((lsAt t order i).lv.1 + (minOf t (lsAt t order i).at_ x).1), int ((lsAt t order i).lv.2 + (minOf t (lsAt t order i).at_ x).2)] := by simp [legAt, toAt_of hx, comesTo]
      refine W_region rfl ?_
      refine W_pure rfl rfl (po_loadO (ev_t rfl (by (conv => lhs; whnf) <;> rfl)) K31 A31 hσf.2 hb2 rfl) ?_
      refine W_pure rfl rfl (po_move (ev_t rfl (by (conv => lhs; whnf) <;> rfl))) ?_
      refine W_pure rfl rfl (po_indexAddrS U31 T3 (ev_t rfl (by (conv => lhs; whnf) <;> rfl)) (by first | exact SlOf.sl | exact SlOf.gr | exact SlOf.rd | exact SlOf.nil | assumption) (ev_t rfl (by (conv => lhs; whnf) <;> rfl)) (by first | omega | (simp only [List.length_map, List.length_append, List.length_cons, List.length_nil] at *; omega)) (show _ = some (int x) by simp [hx]) (by first | exact vcells_gr | exact vcells_rd | exact (SlOf.cells (by assumption)).1 | ((conv => lhs; whnf) <;> rfl)) rfl) ?_
      refine W_pure rfl rfl (po_loadR (ev_t rfl (by (conv => lhs; whnf) <;> rfl)) K3 A3) ?_
      refine W_pure rfl rfl (po_fieldAddr (ev_t rfl (by (conv => lhs; whnf) <;> rfl)) F125_2 T3 (by (conv => lhs; whnf) <;> rfl)) ?_
      refine W_store (i := 0) rfl rfl rfl (ev_t rfl (by (conv => lhs; whnf) <;> rfl)) (ev_t rfl (by (conv => lhs; whnf) <;> rfl)) rfl (by first | exact vcells_gr | exact vcells_rd | exact (SlOf.cells (by assumption)).1 | ((conv => lhs; whnf) <;> rfl)) T3 rfl rfl (by first | rfl | (simp; done) | (simp [cellOK]; done)) (by simp only [wr]; exact rfl) (by simp only [zset]; exact rfl) ?_
      refine W_done ?_
      refine W_seq ?_
      refine W_seq ?_
      refine W_drawI (cs := [15]) (gl := [0, 1, 2, 3, 4, 5, 6, 7, 8, 9, 10, 11, 12, 13, 14, 15]) [0] (by simp only [zdrop, List.any_cons, List.any_nil, Nat.beq, Bool.or_false, cond_true, cond_false]; exact rfl) rfl rfl ?_
      refine DE_pureW (.cons _ .slnil) (want_none rfl) rfl (po_fieldAddr (ev_t rfl (by (conv => lhs; whnf) <;> rfl)) F125_4 T33 (by (conv => lhs; whnf) <;> rfl)) ?_
      refine DE_locW (.cons _ .slnil) rfl (want_none rfl) rfl (po_loadA (i := 0) (ev_t rfl (by (conv => lhs; whnf) <;> rfl)) K33 A33 T33 rfl rfl (by simp only [sub]; exact rfl)) ?_
      refine DE_pureW (.cons _ .slnil) (want_none rfl) rfl (po_fieldAddr (ev_t rfl (by (conv => lhs; whnf) <;> rfl)) F119_0 T40 (by (conv => lhs; whnf) <;> rfl)) ?_
      refine DE_pureW (.cons _ .slnil) (want_none rfl) rfl (po_fieldAddr (ev_t rfl (by (conv => lhs; whnf) <;> rfl)) F40_0 T37 (by (conv => lhs; whnf) <;> rfl)) ?_
      refine DE_pureW (.cons _ .slnil) (want_none rfl) rfl (po_loadO (ev_t rfl (by (conv => lhs; whnf) <;> rfl)) K37 A37 hσf.1 hb1 rfl) ?_
      refine DE_pureW (.cons _ .slnil) (want_none rfl) rfl (po_fieldAddr (ev_t rfl (by (conv => lhs; whnf) <;> rfl)) F125_1 T3 (by (conv => lhs; whnf) <;> rfl)) ?_
      refine DE_locW (.cons _ .slnil) rfl (want_none rfl) rfl (po_load (i := 0) (ev_t rfl (by (conv => lhs; whnf) <;> rfl)) K3 A3 rfl rfl) ?_
      refine DE_pureW (.cons _ .slnil) (want_none rfl) rfl (po_indexAddrS U37 T51 (ev_t rfl (by (conv => lhs; whnf) <;> rfl)) (by first | exact SlOf.sl | exact SlOf.gr | exact SlOf.rd | exact SlOf.nil | assumption) (ev_t rfl (by (conv => lhs; whnf) <;> rfl)) (by first | omega | (simp only [List.length_map, List.length_append, List.length_cons, List.length_nil] at *; omega)) (show _ = some r by simp [hr]) hr1.cells.1 rfl) ?_
      refine DE_pureW (.cons _ .slnil) (want_none rfl) rfl (po_loadR (ev_t rfl (by (conv => lhs; whnf) <;> rfl)) K51 A51) ?_
      refine DE_pureW (.cons _ .slnil) (want_none rfl) rfl (po_fieldAddr (ev_t rfl (by (conv => lhs; whnf) <;> rfl)) F125_2 T3 (by (conv => lhs; whnf) <;> rfl)) ?_
      refine DE_locW (.cons _ .slnil) rfl (want_none rfl) rfl (po_load (i := 0) (ev_t rfl (by (conv => lhs; whnf) <;> rfl)) K3 A3 rfl rfl) ?_
      refine DE_pureW (.cons _ .slnil) (want_none rfl) rfl (po_indexAddrS U51 T33 (ev_t rfl (by (conv => lhs; whnf) <;> rfl)) (by first | exact SlOf.sl | exact SlOf.gr | exact SlOf.rd | exact SlOf.nil | assumption) (ev_t rfl (by (conv => lhs; whnf) <;> rfl)) (by first | omega | (simp only [List.length_map, List.length_append, List.length_cons, List.length_nil] at *; omega)) (show _ = some (span (minOf t (lsAt t order i).at_ _)) by simpa using hms) (by first | exact vcells_gr | exact vcells_rd | exact (SlOf.cells (by assumption)).1 | ((conv => lhs; whnf) <;> rfl)) rfl) ?_
      refine DE_pureW (.cons _ .slnil) (want_none rfl) rfl (po_loadRA (ev_t rfl (by (conv => lhs; whnf) <;> rfl)) K33 A33 T33 rfl (by simp only [sub]; exact rfl)) ?_
      refine DE_callW (.cons _ .slnil) (want_none rfl) rfl rfl rfl rfl (evl_cons (ev_t rfl (by (conv => lhs; whnf) <;> rfl)) (evl_cons (ev_t rfl (by (conv => lhs; whnf) <;> rfl)) evl_nil)) (fun σ hz => c87 _ _ _ _ (by omega) σ) ?_
      refine DE_pureW (.cons _ .slnil) (want_none rfl) rfl (po_fieldAddr (ev_t rfl (by (conv => lhs; whnf) <;> rfl)) F125_5 T33 (by (conv => lhs; whnf) <;> rfl)) ?_
      refine DE_eff0 (.cons _ .slnil) (want_none rfl) rfl rfl (eff_store (i := 0) (ev_t rfl (by (conv => lhs; whnf) <;> rfl)) (ev_t rfl (by (conv => lhs; whnf) <;> rfl)) rfl (by first | exact vcells_gr | exact vcells_rd | exact (SlOf.cells (by assumption)).1 | ((conv => lhs; whnf) <;> rfl)) T33 rfl rfl (by first | rfl | (simp; done) | (simp [cellOK]; done)) (by simp only [wr]; exact rfl) (by simp only [zset]; exact rfl)) fun _ h_ => ?_
      refine DE_nil (.cons _ .slnil) ?_
      refine W_seq ?_
      refine W_region rfl ?_
      refine W_pure rfl rfl (po_move (ev_t rfl (by (conv => lhs; whnf) <;> rfl))) ?_
      refine W_pure rfl rfl (po_loadA (i := 0) (ev_t rfl (by (conv => lhs; whnf) <;> rfl)) K125 A125 T125 rfl rfl (by simp only [sub]; exact rfl)) ?_
      refine W_yield (A1 := I (i + 1)) (A2 := J i) rfl rfl rfl rfl (ev_t rfl (by (conv => lhs; whnf) <;> rfl)) (evl_cons (ev_t rfl (by (conv => lhs; whnf) <;> rfl)) evl_nil) (fun b h => h) (by simp) (fun σ h => h.2) (hIl _) (hJl _) (fun σ hz => hstep i _ σ (by rw [legs_at hI1.1, hlegv]) hz.inv.1 (hz.go rfl hz.inv.2)) ?_ ?_
      ·
        refine W_pure rfl rfl (po_un (ev_t rfl (by (conv => lhs; whnf) <;> rfl)) (by (conv => lhs; whnf) <;> rfl)) ?_
        refine W_pure rfl rfl (po_move (ev_t rfl (by (conv => lhs; whnf) <;> rfl))) ?_
        refine W_yes rfl rfl rfl rfl rfl rfl (po_fieldAddr (ev_t rfl (by (conv => lhs; whnf) <;> rfl)) F125_2 T3 (by (conv => lhs; whnf) <;> rfl)) ?_
        refine W_yes rfl rfl rfl rfl rfl rfl (po_load (i := 0) (ev_t rfl (by (conv => lhs; whnf) <;> rfl)) K3 A3 rfl rfl) ?_
        refine W_yes rfl rfl rfl rfl rfl rfl (po_bin (ev_t rfl (by (conv => lhs; whnf) <;> rfl)) rfl (by (conv => lhs; whnf) <;> rfl)) ?_
        refine W_known 73 false (by (conv => lhs; whnf) <;> rfl) (by first | rfl | (congr 1; simp; done) | (congr 1; simp; omega) | (congr 1; simp only [decide_eq_true_eq, decide_eq_false_iff_not, List.length_map]; omega) | (congr 1; simp_all; done) | (congr 1; simp_all; omega)) ?_
        refine W_pure rfl rfl (po_pickF (ev_t rfl (by (conv => lhs; whnf) <;> rfl)) (ev_t rfl (by (conv => lhs; whnf) <;> rfl))) ?_
        refine W_done ?_
        refine W_else (ev_t rfl (by (conv => lhs; whnf) <;> rfl)) ?_
        refine W_skip ?_
        refine W_seq ?_
        refine W_region rfl ?_
        refine W_pure rfl rfl (po_fieldAddr (ev_t rfl (by (conv => lhs; whnf) <;> rfl)) F119_0 T40 (by (conv => lhs; whnf) <;> rfl)) ?_
        refine W_pure rfl rfl (po_fieldAddr (ev_t rfl (by (conv => lhs; whnf) <;> rfl)) F40_1 T38 (by (conv => lhs; whnf) <;> rfl)) ?_
        refine W_pure rfl rfl (po_loadO (ev_t rfl (by (conv => lhs; whnf) <;> rfl)) K38 A38 hσf.1 hb1 rfl) ?_
        refine W_pure rfl rfl (po_fieldAddr (ev_t rfl (by (conv => lhs; whnf) <;> rfl)) F125_2 T3 (by (conv => lhs; whnf) <;> rfl)) ?_
        refine W_pure rfl rfl (po_load (i := 0) (ev_t rfl (by (conv => lhs; whnf) <;> rfl)) K3 A3 rfl rfl) ?_
        refine W_pure rfl rfl (po_sub (ev_t rfl (by (conv => lhs; whnf) <;> rfl)) rfl (by first | omega | (simp only [List.length_map, List.length_append, List.length_cons, List.length_nil] at *; omega))) ?_
        refine W_pure rfl rfl (po_indexAddrS U38 T117 (ev_t rfl (by (conv => lhs; whnf) <;> rfl)) (by first | exact SlOf.sl | exact SlOf.gr | exact SlOf.rd | exact SlOf.nil | assumption) (ev_t rfl (by (conv => lhs; whnf) <;> rfl)) (by first | omega | (simp only [List.length_map, List.length_append, List.length_cons, List.length_nil] at *; omega)) (show _ = some (place (plOf t x)) by rw [List.getElem?_map, hpg]; rfl) (by first | exact vcells_gr | exact vcells_rd | exact (SlOf.cells (by assumption)).1 | ((conv => lhs; whnf) <;> rfl)) rfl) ?_
        refine W_pure rfl rfl (po_loadRA (ev_t rfl (by (conv => lhs; whnf) <;> rfl)) K117 A117 T117 rfl (by simp only [sub]; exact rfl)) ?_
        refine W_alloc rfl rfl rfl Z117 (fun t h => by cases h) (by (conv => lhs; whnf) <;> rfl) fun b8 hb8 => ?_
        refine W_store (i := 0) rfl rfl rfl (ev_t rfl (by (conv => lhs; whnf) <;> rfl)) (ev_t rfl (by (conv => lhs; whnf) <;> rfl)) rfl (by first | exact vcells_gr | exact vcells_rd | exact (SlOf.cells (by assumption)).1 | ((conv => lhs; whnf) <;> rfl)) T117 rfl rfl (by first | rfl | (simp; done) | (simp [cellOK]; done)) (by simp only [wr]; exact rfl) (by simp only [zset]; exact rfl) ?_
        refine W_done ?_
        refine W_seq ?_
        refine W_region rfl ?_
        refine W_pure rfl rfl (po_fieldAddr (ev_t rfl (by (conv => lhs; whnf) <;> rfl)) F125_3 T3 (by (conv => lhs; whnf) <;> rfl)) ?_
        refine W_pure rfl rfl (po_load (i := 1) (ev_t rfl (by (conv => lhs; whnf) <;> rfl)) K3 A3 rfl rfl) ?_
        refine W_pure rfl rfl (po_fieldAddr (ev_t rfl (by (conv => lhs; whnf) <;> rfl)) F117_4 T3 (by (conv => lhs; whnf) <;> rfl)) ?_
        refine W_pure rfl rfl (po_load (i := 0) (ev_t rfl (by (conv => lhs; whnf) <;> rfl)) K3 A3 rfl rfl) ?_
        refine W_pure rfl rfl (po_fieldAddr (ev_t rfl (by (conv => lhs; whnf) <;> rfl)) F117_3 T3 (by (conv => lhs; whnf) <;> rfl)) ?_
        refine W_pure rfl rfl (po_load (i := 0) (ev_t rfl (by (conv => lhs; whnf) <;> rfl)) K3 A3 rfl rfl) ?_
        refine W_pure rfl rfl (po_sub (ev_t rfl (by (conv => lhs; whnf) <;> rfl)) (ev_t rfl (by (conv => lhs; whnf) <;> rfl)) (by first | omega | (simp only [List.length_map, List.length_append, List.length_cons, List.length_nil] at *; omega))) ?_
        refine W_pure rfl rfl (po_add (ev_t rfl (by (conv => lhs; whnf) <;> rfl)) (ev_t rfl (by (conv => lhs; whnf) <;> rfl)) (by first | omega | (simp only [List.length_map, List.length_append, List.length_cons, List.length_nil] at *; omega))) ?_
        refine W_pure rfl rfl (po_fieldAddr (ev_t rfl (by (conv => lhs; whnf) <;> rfl)) F125_3 T3 (by (conv => lhs; whnf) <;> rfl)) ?_
        refine W_store (i := 1) rfl rfl rfl (ev_t rfl (by (conv => lhs; whnf) <;> rfl)) (ev_t rfl (by (conv => lhs; whnf) <;> rfl)) rfl (by first | exact vcells_gr | exact vcells_rd | exact (SlOf.cells (by assumption)).1 | ((conv => lhs; whnf) <;> rfl)) T3 rfl rfl (by first | rfl | (simp; done) | (simp [cellOK]; done)) (by simp only [wr]; exact rfl) (by simp only [zset]; exact rfl) ?_
        refine W_done ?_
        refine W_seq ?_
        refine W_drawI (cs := [18]) (gl := [0, 1, 2, 3, 4, 5, 6, 7, 8, 9, 10, 11, 12, 13, 14, 15, 16, 17, 18]) [1] (by simp only [zdrop, List.any_cons, List.any_nil, Nat.beq, Bool.or_false, cond_true, cond_false]; exact rfl) rfl rfl ?_
        refine DE_pureW (.cons_cons _ (.cons _ .slnil)) (want_none rfl) rfl (po_fieldAddr (ev_t rfl (by (conv => lhs; whnf) <;> rfl)) F125_5 T33 (by (conv => lhs; whnf) <;> rfl)) ?_
        refine DE_pureW (.cons_cons _ (.cons _ .slnil)) (want_none rfl) rfl (po_fieldAddr (ev_t rfl (by (conv => lhs; whnf) <;> rfl)) F33_0 T3 (by (conv => lhs; whnf) <;> rfl)) ?_
        refine DE_locW (.cons_cons _ (.cons _ .slnil)) rfl (want_none rfl) rfl (po_load (i := 1) (ev_t rfl (by (conv => lhs; whnf) <;> rfl)) K3 A3 rfl rfl) ?_
        refine DE_pureW (.cons_cons _ (.cons _ .slnil)) (want_none rfl) rfl (po_fieldAddr (ev_t rfl (by (conv => lhs; whnf) <;> rfl)) F117_0 T3 (by (conv => lhs; whnf) <;> rfl)) ?_
        refine DE_pureW (.cons_cons _ (.cons _ .slnil)) (want_none rfl) rfl (po_load (i := 0) (ev_t rfl (by (conv => lhs; whnf) <;> rfl)) K3 A3 rfl rfl) ?_
        refine DE_pureW (.cons_cons _ (.cons _ .slnil)) (want_none rfl) rfl (po_max (ev_t rfl (by (conv => lhs; whnf) <;> rfl)) (ev_t rfl (by (conv => lhs; whnf) <;> rfl))) ?_
        refine DE_pureW (.cons_cons _ (.cons _ .slnil)) (want_none rfl) rfl (po_fieldAddr (ev_t rfl (by (conv => lhs; whnf) <;> rfl)) F125_5 T33 (by (conv => lhs; whnf) <;> rfl)) ?_
        refine DE_pureW (.cons_cons _ (.cons _ .slnil)) (want_none rfl) rfl (po_fieldAddr (ev_t rfl (by (conv => lhs; whnf) <;> rfl)) F33_1 T3 (by (conv => lhs; whnf) <;> rfl)) ?_
        refine DE_locW (.cons_cons _ (.cons _ .slnil)) rfl (want_none rfl) rfl (po_load (i := 1) (ev_t rfl (by (conv => lhs; whnf) <;> rfl)) K3 A3 rfl rfl) ?_
        refine DE_pureW (.cons_cons _ (.cons _ .slnil)) (want_none rfl) rfl (po_fieldAddr (ev_t rfl (by (conv => lhs; whnf) <;> rfl)) F117_0 T3 (by (conv => lhs; whnf) <;> rfl)) ?_
        refine DE_pureW (.cons_cons _ (.cons _ .slnil)) (want_none rfl) rfl (po_load (i := 0) (ev_t rfl (by (conv => lhs; whnf) <;> rfl)) K3 A3 rfl rfl) ?_
        refine DE_pureW (.cons_cons _ (.cons _ .slnil)) (want_none rfl) rfl (po_max (ev_t rfl (by (conv => lhs; whnf) <;> rfl)) (ev_t rfl (by (conv => lhs; whnf) <;> rfl))) ?_
        refine DE_pureW (.cons_cons _ (.cons _ .slnil)) (want_none rfl) rfl (po_struct (evp_cons (ev_t rfl (by (conv => lhs; whnf) <;> rfl)) (evp_cons (ev_t rfl (by (conv => lhs; whnf) <;> rfl)) evp_nil)) Z33 P33 rfl (by simp only [lay, nth, wr, vcells]; exact rfl)) ?_
        refine DE_pureW (.cons_cons _ (.cons _ .slnil)) (want_none rfl) rfl (po_fieldAddr (ev_t rfl (by (conv => lhs; whnf) <;> rfl)) F117_2 T3 (by (conv => lhs; whnf) <;> rfl)) ?_
        refine DE_pureW (.cons_cons _ (.cons _ .slnil)) (want_none rfl) rfl (po_load (i := 0) (ev_t rfl (by (conv => lhs; whnf) <;> rfl)) K3 A3 rfl rfl) ?_
        refine DE_callW (.cons_cons _ (.cons _ .slnil)) (want_none rfl) rfl rfl rfl rfl (evl_cons (ev_t rfl (by (conv => lhs; whnf) <;> rfl)) evl_nil) (fun σ hz => c86 _ σ) ?_
        refine DE_callW (.cons_cons _ (.cons _ .slnil)) (want_none rfl) rfl rfl rfl rfl (evl_cons (ev_t rfl (by (conv => lhs; whnf) <;> rfl)) (evl_cons (ev_t rfl (by (conv => lhs; whnf) <;> rfl)) evl_nil)) (fun σ hz => c87 _ _ _ _ (by simp only [ifmax]; omega) σ) ?_
        refine DE_pureW (.cons_cons _ (.cons _ .slnil)) (want_none rfl) rfl (po_fieldAddr (ev_t rfl (by (conv => lhs; whnf) <;> rfl)) F125_4 T33 (by (conv => lhs; whnf) <;> rfl)) ?_
        refine DE_eff0 (.cons_cons _ (.cons _ .slnil)) (want_none rfl) rfl rfl (eff_store (i := 1) (ev_t rfl (by (conv => lhs; whnf) <;> rfl)) (ev_t rfl (by (conv => lhs; whnf) <;> rfl)) rfl (by first | exact vcells_gr | exact vcells_rd | exact (SlOf.cells (by assumption)).1 | ((conv => lhs; whnf) <;> rfl)) T33 rfl rfl (by first | rfl | (simp; done) | (simp [cellOK]; done)) (by simp only [wr]; exact rfl) (by simp only [zset]; exact rfl)) fun _ h_ => ?_
        refine DE_nil (.cons_cons _ (.cons _ .slnil)) ?_
        refine W_region rfl ?_
        refine W_pure rfl rfl (po_fieldAddr (ev_t rfl (by (conv => lhs; whnf) <;> rfl)) F125_2 T3 (by (conv => lhs; whnf) <;> rfl)) ?_
        refine W_pure rfl rfl (po_load (i := 1) (ev_t rfl (by (conv => lhs; whnf) <;> rfl)) K3 A3 rfl rfl) ?_
        refine W_pure rfl rfl (po_fieldAddr (ev_t rfl (by (conv => lhs; whnf) <;> rfl)) F125_1 T3 (by (conv => lhs; whnf) <;> rfl)) ?_
        refine W_store (i := 1) rfl rfl rfl (ev_t rfl (by (conv => lhs; whnf) <;> rfl)) (ev_t rfl (by (conv => lhs; whnf) <;> rfl)) rfl (by first | exact vcells_gr | exact vcells_rd | exact (SlOf.cells (by assumption)).1 | ((conv => lhs; whnf) <;> rfl)) T3 rfl rfl (by first | rfl | (simp; done) | (simp [cellOK]; done)) (by simp only [wr]; exact rfl) (by simp only [zset]; exact rfl) ?_
        refine W_done ?_
        refine W_inB ?_
        refine W_region rfl ?_
        refine W_pure rfl rfl (po_add (ev_t rfl (by (conv => lhs; whnf) <;> rfl)) rfl (by first | omega | (simp only [List.length_map, List.length_append, List.length_cons, List.length_nil] at *; omega))) ?_
        refine W_pure rfl rfl (po_move (ev_t rfl (by (conv => lhs; whnf) <;> rfl))) ?_
        refine W_done ?_
        refine W_less (.cons _ (.cons_cons _ .slnil)) ?_
        exact ih1 (i + 1, int i, int x, int _, int _) _ _ (⟨by omega, trivial⟩) (by simp; omega) (AE 36 (Eq.trans (by (conv => lhs; whnf) <;> rfl) (by first | rfl | (simp; done) | (simp; omega))) AE_nil) (AE 0 (by (conv => lhs; whnf) <;> rfl) (AE 1 (by (conv => lhs; whnf) <;> rfl) (AE 2 (by (conv => lhs; whnf) <;> rfl) (AE 4 (by (conv => lhs; whnf) <;> rfl) (AE 35 (by (conv => lhs; whnf) <;> rfl) AE_nil))))) (by simp [zsets, zset, lsAt_succ hx, lstep, comesTo]; exact ⟨rfl, rfl⟩)
      ·
        refine W_pure rfl rfl (po_un (ev_t rfl (by (conv => lhs; whnf) <;> rfl)) (by (conv => lhs; whnf) <;> rfl)) ?_
        refine W_pure rfl rfl (po_move (ev_t rfl (by (conv => lhs; whnf) <;> rfl))) ?_
        refine W_no rfl rfl rfl rfl rfl rfl ?_
        refine W_no rfl rfl rfl rfl rfl rfl ?_
        refine W_no rfl rfl rfl rfl rfl rfl ?_
        refine W_pure rfl rfl (po_pickT (ev_t rfl (by (conv => lhs; whnf) <;> rfl)) rfl) ?_
        refine W_done ?_
        refine W_then (ev_t rfl (by (conv => lhs; whnf) <;> rfl)) ?_
        exact W_ret fun fr σ' hf hz => endsI_of (.inr rfl) hz rfl (fun h => h.2) rfl fun h => .inr ⟨i, by simp [legsL]; omega, h.1⟩
    · (try simp only [decide_eq_true_eq, decide_eq_false_iff_not, beq_iff_eq, beq_eq_false_iff_ne, bne_iff_ne, ne_eq, bne_eq_false_iff_eq, Bool.not_eq_true', Bool.not_eq_false', Bool.not_eq_true, Bool.not_eq_false, Bool.not_false, Bool.not_true, not_lt, not_le, Int.not_lt, Int.not_le, Decidable.not_not] at g1); (try simp at g1)
      have hend : i = order.length := by omega
      obtain ⟨row, hrow, hms, hmo⟩ := minOf_get ol.body (a := (lsAt t order i).at_) (b := 0) (by omega) (by omega)
      have hr1 := hrr _ r row hr hrow
      have hmo2 : 0 ≤ (minOf t (lsAt t order i).at_ 0).1 ∧ (minOf t (lsAt t order i).at_ 0).1 ≤ (minOf t (lsAt t order i).at_ 0).2 ∧ (minOf t (lsAt t order i).at_ 0).2 ≤ 600 := hmo
      have hto : toAt order i = 0 := by simp [toAt, hend]
      have hlegv : leg (legAt t order i) = .agg [int i, int (lsAt t order i).at_, int 0, int (lsAt t order i).load, int (lsAt t order i).lv.1, int (lsAt t order i).lv.2, int ((lsAt t order i).lv.1 + (minOf t (lsAt t order i).at_ 0).1), int ((lsAt t order i).lv.2 + (minOf t (lsAt t order i).at_ 0).2)] := by simp [legAt, hto, comesTo]
      refine W_skip ?_
      refine W_seq ?_
      refine W_seq ?_
      refine W_drawI (cs := [15]) (gl := [0, 1, 2, 3, 4, 5, 6, 7, 8, 9, 10, 11, 12, 13, 14, 15]) [0] (by simp only [zdrop, List.any_cons, List.any_nil, Nat.beq, Bool.or_false, cond_true, cond_false]; exact rfl) rfl rfl ?_
      refine DE_pureW (.cons _ .slnil) (want_none rfl) rfl (po_fieldAddr (ev_t rfl (by (conv => lhs; whnf) <;> rfl)) F125_4 T33 (by (conv => lhs; whnf) <;> rfl)) ?_
      refine DE_locW (.cons _ .slnil) rfl (want_none rfl) rfl (po_loadA (i := 0) (ev_t rfl (by (conv => lhs; whnf) <;> rfl)) K33 A33 T33 rfl rfl (by simp only [sub]; exact rfl)) ?_
      refine DE_pureW (.cons _ .slnil) (want_none rfl) rfl (po_fieldAddr (ev_t rfl (by (conv => lhs; whnf) <;> rfl)) F119_0 T40 (by (conv => lhs; whnf) <;> rfl)) ?_
      refine DE_pureW (.cons _ .slnil) (want_none rfl) rfl (po_fieldAddr (ev_t rfl (by (conv => lhs; whnf) <;> rfl)) F40_0 T37 (by (conv => lhs; whnf) <;> rfl)) ?_
      refine DE_pureW (.cons _ .slnil) (want_none rfl) rfl (po_loadO (ev_t rfl (by (conv => lhs; whnf) <;> rfl)) K37 A37 hσf.1 hb1 rfl) ?_
      refine DE_pureW (.cons _ .slnil) (want_none rfl) rfl (po_fieldAddr (ev_t rfl (by (conv => lhs; whnf) <;> rfl)) F125_1 T3 (by (conv => lhs; whnf) <;> rfl)) ?_
      refine DE_locW (.cons _ .slnil) rfl (want_none rfl) rfl (po_load (i := 0) (ev_t rfl (by (conv => lhs; whnf) <;> rfl)) K3 A3 rfl rfl) ?_
      refine DE_pureW (.cons _ .slnil) (want_none rfl) rfl (po_indexAddrS U37 T51 (ev_t rfl (by (conv => lhs; whnf) <;> rfl)) (by first | exact SlOf.sl | exact SlOf.gr | exact SlOf.rd | exact SlOf.nil | assumption) (ev_t rfl (by (conv => lhs; whnf) <;> rfl)) (by first | omega | (simp only [List.length_map, List.length_append, List.length_cons, List.length_nil] at *; omega)) (show _ = some r by simp [hr]) hr1.cells.1 rfl) ?_
      refine DE_pureW (.cons _ .slnil) (want_none rfl) rfl (po_loadR (ev_t rfl (by (conv => lhs; whnf) <;> rfl)) K51 A51) ?_
      refine DE_pureW (.cons _ .slnil) (want_none rfl) rfl (po_fieldAddr (ev_t rfl (by (conv => lhs; whnf) <;> rfl)) F125_2 T3 (by (conv => lhs; whnf) <;> rfl)) ?_
      refine DE_locW (.cons _ .slnil) rfl (want_none rfl) rfl (po_load (i := 0) (ev_t rfl (by (conv => lhs; whnf) <;> rfl)) K3 A3 rfl rfl) ?_
      refine DE_pureW (.cons _ .slnil) (want_none rfl) rfl (po_indexAddrS U51 T33 (ev_t rfl (by (conv => lhs; whnf) <;> rfl)) (by first | exact SlOf.sl | exact SlOf.gr | exact SlOf.rd | exact SlOf.nil | assumption) (ev_t rfl (by (conv => lhs; whnf) <;> rfl)) (by first | omega | (simp only [List.length_map, List.length_append, List.length_cons, List.length_nil] at *; omega)) (show _ = some (span (minOf t (lsAt t order i).at_ _)) by simpa using hms) (by first | exact vcells_gr | exact vcells_rd | exact (SlOf.cells (by assumption)).1 | ((conv => lhs; whnf) <;> rfl)) rfl) ?_
      refine DE_pureW (.cons _ .slnil) (want_none rfl) rfl (po_loadRA (ev_t rfl (by (conv => lhs; whnf) <;> rfl)) K33 A33 T33 rfl (by simp only [sub]; exact rfl)) ?_
      refine DE_callW (.cons _ .slnil) (want_none rfl) rfl rfl rfl rfl (evl_cons (ev_t rfl (by (conv => lhs; whnf) <;> rfl)) (evl_cons (ev_t rfl (by (conv => lhs; whnf) <;> rfl)) evl_nil)) (fun σ hz => c87 _ _ _ _ (by omega) σ) ?_
      refine DE_pureW (.cons _ .slnil) (want_none rfl) rfl (po_fieldAddr (ev_t rfl (by (conv => lhs; whnf) <;> rfl)) F125_5 T33 (by (conv => lhs; whnf) <;> rfl)) ?_
      refine DE_eff0 (.cons _ .slnil) (want_none rfl) rfl rfl (eff_store (i := 0) (ev_t rfl (by (conv => lhs; whnf) <;> rfl)) (ev_t rfl (by (conv => lhs; whnf) <;> rfl)) rfl (by first | exact vcells_gr | exact vcells_rd | exact (SlOf.cells (by assumption)).1 | ((conv => lhs; whnf) <;> rfl)) T33 rfl rfl (by first | rfl | (simp; done) | (simp [cellOK]; done)) (by simp only [wr]; exact rfl) (by simp only [zset]; exact rfl)) fun _ h_ => ?_
      refine DE_nil (.cons _ .slnil) ?_
      refine W_seq ?_
      refine W_region rfl ?_
      refine W_pure rfl rfl (po_move (ev_t rfl (by (conv => lhs; whnf) <;> rfl))) ?_
      refine W_pure rfl rfl (po_loadA (i := 0) (ev_t rfl (by (conv => lhs; whnf) <;> rfl)) K125 A125 T125 rfl rfl (by simp only [sub]; exact rfl)) ?_
      refine W_yield (A1 := I (i + 1)) (A2 := J i) rfl rfl rfl rfl (ev_t rfl (by (conv => lhs; whnf) <;> rfl)) (evl_cons (ev_t rfl (by (conv => lhs; whnf) <;> rfl)) evl_nil) (fun b h => h) (by simp) (fun σ h => h.2) (hIl _) (hJl _) (fun σ hz => hstep i _ σ (by rw [legs_at hI1.1, hlegv]) hz.inv.1 (hz.go rfl hz.inv.2)) ?_ ?_
      ·
        refine W_pure rfl rfl (po_un (ev_t rfl (by (conv => lhs; whnf) <;> rfl)) (by (conv => lhs; whnf) <;> rfl)) ?_
        refine W_pure rfl rfl (po_move (ev_t rfl (by (conv => lhs; whnf) <;> rfl))) ?_
        refine W_yes rfl rfl rfl rfl rfl rfl (po_fieldAddr (ev_t rfl (by (conv => lhs; whnf) <;> rfl)) F125_2 T3 (by (conv => lhs; whnf) <;> rfl)) ?_
        refine W_yes rfl rfl rfl rfl rfl rfl (po_load (i := 0) (ev_t rfl (by (conv => lhs; whnf) <;> rfl)) K3 A3 rfl rfl) ?_
        refine W_yes rfl rfl rfl rfl rfl rfl (po_bin (ev_t rfl (by (conv => lhs; whnf) <;> rfl)) rfl (by (conv => lhs; whnf) <;> rfl)) ?_
        refine W_known 73 true (by (conv => lhs; whnf) <;> rfl) (by first | rfl | (congr 1; simp; done) | (congr 1; simp; omega) | (congr 1; simp only [decide_eq_true_eq, decide_eq_false_iff_not, List.length_map]; omega) | (congr 1; simp_all; done) | (congr 1; simp_all; omega)) ?_
        refine W_pure rfl rfl (po_pickF (ev_t rfl (by (conv => lhs; whnf) <;> rfl)) (ev_t rfl (by (conv => lhs; whnf) <;> rfl))) ?_
        refine W_done ?_
        refine W_then (ev_t rfl (by (conv => lhs; whnf) <;> rfl)) ?_
        exact W_ret fun fr σ' hf hz => endsI_of (.inr rfl) hz rfl (fun h => h.2) rfl fun h => .inl (by simpa [legsL, hend] using h.1)
      ·
        refine W_pure rfl rfl (po_un (ev_t rfl (by (conv => lhs; whnf) <;> rfl)) (by (conv => lhs; whnf) <;> rfl)) ?_
        refine W_pure rfl rfl (po_move (ev_t rfl (by (conv => lhs; whnf) <;> rfl))) ?_
        refine W_no rfl rfl rfl rfl rfl rfl ?_
        refine W_no rfl rfl rfl rfl rfl rfl ?_
        refine W_no rfl rfl rfl rfl rfl rfl ?_
        refine W_pure rfl rfl (po_pickT (ev_t rfl (by (conv => lhs; whnf) <;> rfl)) rfl) ?_
        refine W_done ?_
        refine W_then (ev_t rfl (by (conv => lhs; whnf) <;> rfl)) ?_
        exact W_ret fun fr σ' hf hz => endsI_of (.inr rfl) hz rfl (fun h => h.2) rfl fun h => .inr ⟨i, by simp [legsL]; omega, h.1⟩

end Go.Proofs

set_option linter.unusedVariables false
set_option linter.unusedSimpArgs false
set_option maxRecDepth 10000
namespace Go.Proofs
open Go Go.Ev TryT


def untilF (t : Tsk) (p : Int) : Int := if p = 0 then t.back else (plOf t p).due

theorem c38 (t : Tsk) (vm vp : V) (tv : TaskV t vm vp) (ob : OkBody t) (p : Int) (hp : 0 ≤ p ∧ p ≤ t.places.length) (σ : St) : Run TC (.app false (.func (.func 38) [] []) [taskV t vm vp, int p]) σ (.val (int (untilF t p))) σ := by
  have htp := tv.places
  have hmany := ob.many
  refine fn_pure (n := 18) (fn := Try.f38) rfl Try.func38 rfl rfl rfl ?_
  refine W_seq ?_
  refine W_region rfl ?_
  refine W_box rfl rfl rfl (ev_t rfl (by (conv => lhs; whnf) <;> rfl)) (by first | exact vcells_gr | exact vcells_rd | exact (SlOf.cells (by assumption)).1 | ((conv => lhs; whnf) <;> rfl)) fun b2 hb2 => ?_
  refine W_pure rfl rfl (po_assign rfl) ?_
  refine W_done ?_
  refine W_seq ?_
  refine W_seq ?_
  refine W_region rfl ?_
  refine W_pure rfl rfl (po_move (ev_t rfl (by (conv => lhs; whnf) <;> rfl))) ?_
  refine W_pure rfl rfl (po_bin (ev_t rfl (by (conv => lhs; whnf) <;> rfl)) rfl (by (conv => lhs; whnf) <;> rfl)) ?_
  refine W_done ?_
  refine W_if (ev_t rfl (by (conv => lhs; whnf) <;> rfl)) (fun g0 => ?_) (fun g0 => ?_)
  · (try simp only [decide_eq_true_eq, decide_eq_false_iff_not, beq_iff_eq, beq_eq_false_iff_ne, bne_iff_ne, ne_eq, bne_eq_false_iff_eq, Bool.not_eq_true', Bool.not_eq_false', Bool.not_eq_true, Bool.not_eq_false, Bool.not_false, Bool.not_true, not_lt, not_le, Int.not_lt, Int.not_le, Decidable.not_not] at g0); (try simp at g0)
    refine W_seq ?_
    refine W_region rfl ?_
    refine W_pure rfl rfl (po_fieldAddr (ev_t rfl (by (conv => lhs; whnf) <;> rfl)) F119_0 T40 (by (conv => lhs; whnf) <;> rfl)) ?_
    refine W_pure rfl rfl (po_fieldAddr (ev_t rfl (by (conv => lhs; whnf) <;> rfl)) F40_4 T3 (by (conv => lhs; whnf) <;> rfl)) ?_
    refine W_pure rfl rfl (po_load (i := 0) (ev_t rfl (by (conv => lhs; whnf) <;> rfl)) K3 A3 rfl rfl) ?_
    refine W_pure rfl rfl (po_assign (ev_t rfl (by (conv => lhs; whnf) <;> rfl))) ?_
    refine W_done ?_
    exact W_ret fun fr σ' hf hz => ends_of (.inr rfl) hf hz rfl (show resOf _ _ _ _ _ from ⟨_, _, rfl, ev_t rfl (by (conv => lhs; whnf) <;> rfl), rfl⟩) rfl fun τ hz2 => by clear hf hz; simp_all [packV, Ev.freeze, untilF]
  · (try simp only [decide_eq_true_eq, decide_eq_false_iff_not, beq_iff_eq, beq_eq_false_iff_ne, bne_iff_ne, ne_eq, bne_eq_false_iff_eq, Bool.not_eq_true', Bool.not_eq_false', Bool.not_eq_true, Bool.not_eq_false, Bool.not_false, Bool.not_true, not_lt, not_le, Int.not_lt, Int.not_le, Decidable.not_not] at g0); (try simp at g0)
    obtain ⟨hpg, hpo⟩ := plOf_get ob (x := p) (by omega)
    refine W_skip ?_
    refine W_seq ?_
    refine W_region rfl ?_
    refine W_pure rfl rfl (po_fieldAddr (ev_t rfl (by (conv => lhs; whnf) <;> rfl)) F119_0 T40 (by (conv => lhs; whnf) <;> rfl)) ?_
    refine W_pure rfl rfl (po_fieldAddr (ev_t rfl (by (conv => lhs; whnf) <;> rfl)) F40_1 T38 (by (conv => lhs; whnf) <;> rfl)) ?_
    refine W_pure rfl rfl (po_load (i := 0) (ev_t rfl (by (conv => lhs; whnf) <;> rfl)) K38 A38 rfl rfl) ?_
    refine W_pure rfl rfl (po_move (ev_t rfl (by (conv => lhs; whnf) <;> rfl))) ?_
    refine W_pure rfl rfl (po_sub (ev_t rfl (by (conv => lhs; whnf) <;> rfl)) rfl (by first | omega | (simp only [List.length_map, List.length_append, List.length_cons, List.length_nil] at *; omega))) ?_
    refine W_pure rfl rfl (po_indexAddrS U38 T117 (ev_t rfl (by (conv => lhs; whnf) <;> rfl)) (by first | exact SlOf.sl | exact SlOf.gr | exact SlOf.rd | exact SlOf.nil | assumption) (ev_t rfl (by (conv => lhs; whnf) <;> rfl)) (by first | omega | (simp only [List.length_map, List.length_append, List.length_cons, List.length_nil] at *; omega)) (show _ = some (place (plOf t p)) by rw [List.getElem?_map, hpg]; rfl) (by first | exact vcells_gr | exact vcells_rd | exact (SlOf.cells (by assumption)).1 | ((conv => lhs; whnf) <;> rfl)) rfl) ?_
    refine W_pure rfl rfl (po_fieldAddrR (ev_t rfl (by (conv => lhs; whnf) <;> rfl)) F117_1 T3 (by simp only [List.drop_succ_cons, List.drop_zero]; exact rfl)) ?_
    refine W_pure rfl rfl (po_loadR (ev_t rfl (by (conv => lhs; whnf) <;> rfl)) K3 A3) ?_
    refine W_pure rfl rfl (po_assign (ev_t rfl (by (conv => lhs; whnf) <;> rfl))) ?_
    refine W_done ?_
    exact W_ret fun fr σ' hf hz => ends_of (.inr rfl) hf hz rfl (show resOf _ _ _ _ _ from ⟨_, _, rfl, ev_t rfl (by (conv => lhs; whnf) <;> rfl), rfl⟩) rfl fun τ hz2 => by clear hf hz; simp_all [packV, Ev.freeze, untilF]


theorem OkLegs.of {t : Tsk} {order : List Int} (ok : OkTask t) (oo : OkOrder t order) : OkLegs t order := ⟨ok.toOkBody, by have := ok.time; omega, oo.within, oo.len⟩
theorem legs_len {t : Tsk} {order : List Int} : (legsL t order).length = order.length + 1 := by simp [legsL]
theorem legs_of {t : Tsk} {order : List Int} {i : Nat} {v : V} (h : ((legsL t order).map leg)[i]? = some v) : (legsL t order)[i]? = some (legAt t order i) ∧ v = leg (legAt t order i) ∧ i ≤ order.length := by
  have hi : i < order.length + 1 := by have := (List.getElem?_eq_some_iff.1 h).1; simpa [legs_len] using this
  have e : (legsL t order)[i]? = some (legAt t order i) := by simp [legsL, hi]
  refine ⟨e, ?_, by omega⟩
  rw [List.getElem?_map, e] at h
  exact (Option.some.inj h).symm
theorem toAt_ok {t : Tsk} {order : List Int} (h : ∀ x ∈ order, 1 ≤ x ∧ x ≤ t.places.length) (i : Nat) : 0 ≤ toAt order i ∧ toAt order i ≤ t.places.length := by
  unfold toAt
  cases hx : order[i]? with
  | none => simp
  | some x => have := h x (List.mem_of_getElem? hx); simp; omega

theorem c10 (t : Tsk) (vm vp : V) (tv : TaskV t vm vp) (order : List Int) (vo : V) (ho : SlOf vo (order.map int)) (ok : OkTask t) (oo : OkOrder t order) (hne : order ≠ []) (σ : St) : Run TC (.app false (.func (.func 10) [] []) [taskV t vm vp, vo]) σ (.val (.tup [rdSl true (((legsL t order).map (fun l => l.load)).map int), int 0])) σ := by
  have ol := OkLegs.of ok oo
  have hlo := oo.len
  refine fn_pure (n := 32) (fn := Try.f10) rfl Try.func10 rfl rfl rfl ?_
  refine W_seq ?_
  refine W_region rfl ?_
  refine W_box rfl rfl rfl (ev_t rfl (by (conv => lhs; whnf) <;> rfl)) (by first | exact vcells_gr | exact vcells_rd | exact (SlOf.cells (by assumption)).1 | ((conv => lhs; whnf) <;> rfl)) fun b2 hb2 => ?_
  refine W_allocG rfl rfl rfl Z31 U31 fun r4 b4 hr4 hb4 => ?_
  refine W_pure rfl rfl (po_assign rfl) ?_
  refine W_done ?_
  refine W_seq ?_
  refine W_region rfl ?_
  refine W_pure rfl rfl (po_loadA (i := 2) (ev_t rfl (by (conv => lhs; whnf) <;> rfl)) K40 A40 T40 rfl rfl (by simp only [sub]; exact rfl)) ?_
  refine W_pure rfl rfl (po_move (ev_t rfl (by (conv => lhs; whnf) <;> rfl))) ?_
  refine W_call rfl rfl rfl rfl rfl (evl_cons (ev_t rfl (by (conv => lhs; whnf) <;> rfl)) (evl_cons (ev_t rfl (by (conv => lhs; whnf) <;> rfl)) evl_nil)) (fun σ hz => c36 t vm vp tv ok order vo ho oo σ) ?_
  refine W_pure rfl rfl (po_move (ev_t rfl (by (conv => lhs; whnf) <;> rfl))) ?_
  refine W_pure rfl rfl (po_extract (ev_t rfl (by (conv => lhs; whnf) <;> rfl)) rfl) ?_
  refine W_pure rfl rfl (po_extract (ev_t rfl (by (conv => lhs; whnf) <;> rfl)) rfl) ?_
  refine W_alloc rfl rfl rfl Z119 (fun t h => by cases h) (by (conv => lhs; whnf) <;> rfl) fun b6 hb6 => ?_
  refine W_store (i := 0) rfl rfl rfl (ev_t rfl (by (conv => lhs; whnf) <;> rfl)) (ev_t rfl (by (conv => lhs; whnf) <;> rfl)) rfl (by first | exact vcells_gr | exact vcells_rd | exact (SlOf.cells (by assumption)).1 | ((conv => lhs; whnf) <;> rfl)) T119 rfl rfl (by first | rfl | (simp only [List.all_cons, List.all_nil, vcells, tv.cm, tv.cp]; rfl) | (simp; done) | (simp [cellOK]; done)) (by simp only [wr]; exact rfl) (by simp only [zset]; exact rfl) ?_
  refine W_pure rfl rfl (po_assign (ev_t rfl (by (conv => lhs; whnf) <;> rfl))) ?_
  refine W_done ?_
  refine W_seq ?_
  refine W_seq ?_
  refine W_region rfl ?_
  refine W_pure rfl rfl (po_move (ev_t rfl (by (conv => lhs; whnf) <;> rfl))) ?_
  refine W_pure rfl rfl (po_bin (ev_t rfl (by (conv => lhs; whnf) <;> rfl)) rfl (by (conv => lhs; whnf) <;> rfl)) ?_
  refine W_known 15 false (by (conv => lhs; whnf) <;> rfl) (by first | rfl | (congr 1; simp; done) | (congr 1; simp; omega) | (congr 1; simp only [decide_eq_true_eq, decide_eq_false_iff_not, List.length_map]; omega) | (congr 1; simp_all; done) | (congr 1; simp_all; omega)) ?_
  refine W_pure rfl rfl (po_move (ev_t rfl (by (conv => lhs; whnf) <;> rfl))) ?_
  refine W_yes rfl rfl rfl rfl rfl rfl (po_move (ev_t rfl (by (conv => lhs; whnf) <;> rfl))) ?_
  refine W_yes rfl rfl rfl rfl rfl rfl (po_lenS rfl U31 (ev_t rfl (by (conv => lhs; whnf) <;> rfl)) (by first | exact SlOf.sl | exact SlOf.gr | exact SlOf.rd | exact SlOf.nil | assumption)) ?_
  refine W_turn 18 (by (conv => lhs; whnf) <;> rfl) (v' := int order.length) (by simp) ?_
  refine W_yes rfl rfl rfl rfl rfl rfl (po_bin (ev_t rfl (by (conv => lhs; whnf) <;> rfl)) rfl (by (conv => lhs; whnf) <;> rfl)) ?_
  refine W_known 19 false (by (conv => lhs; whnf) <;> rfl) (by (have := List.length_pos_iff.2 hne; congr 1; simp; omega)) ?_
  refine W_pure rfl rfl (po_pickF (ev_t rfl (by (conv => lhs; whnf) <;> rfl)) (ev_t rfl (by (conv => lhs; whnf) <;> rfl))) ?_
  refine W_done ?_
  refine W_else (ev_t rfl (by (conv => lhs; whnf) <;> rfl)) ?_
  refine W_skip ?_
  refine W_seq ?_
  refine W_seq ?_
  refine W_region rfl ?_
  refine W_pure rfl rfl (po_loadA (i := 0) (ev_t rfl (by (conv => lhs; whnf) <;> rfl)) K119 A119 T119 rfl rfl (by simp only [sub]; exact rfl)) ?_
  refine W_pure rfl rfl (po_move (ev_t rfl (by (conv => lhs; whnf) <;> rfl))) ?_
  refine W_callN2 rfl rfl rfl rfl rfl (evl_cons (ev_t rfl (by (conv => lhs; whnf) <;> rfl)) (evl_cons (ev_t rfl (by (conv => lhs; whnf) <;> rfl)) evl_nil)) (fun σ hz => c37 vm vp (int t.holds) (int t.leaves) (int t.back) vo ho.cells.1 ho.cells.2 σ) fun q1 q2 hq1 hq2 => ?_
  refine W_done ?_
  refine W_block ?_
  refine W_rangeI (S := List (Int)) [3, 4] (fun s => [.cells 31 [grSl true r4 (s.map int)], .tok 3 s.length]) ([]) (fun i s => s = ((legsL t order).take i).map (fun l => l.load)) (fun i e s => False) ((it85 t vm vp tv order vo ho ol q1 q2)) (ev_t rfl (by (conv => lhs; whnf) <;> rfl)) rfl (by intro l h; cases h) rfl (fun σ o hz => ⟨hz.getA (i := 0) rfl, hz.getA (i := 1) rfl⟩) rfl (need_new (ns := [0, 1]) rfl rfl rfl) (by simp [zsets, zset, grSl_nilT, grSl_nilF]) (by simp) (by simp) (by simp) ?_ ?_ ?_
  · rintro i xv s lr σl frl hv0 hI0
    obtain ⟨hl0, rfl, hil⟩ := legs_of hv0
    have hsl : s.length ≤ 13 := by rw [hI0]; simp [legs_len]; omega
    refine W_eqZ (by simp only [zsets, zset]; exact rfl) ?_
    refine W_region rfl ?_
    refine W_alloc rfl rfl rfl Z125 (fun t h => by cases h) (by (conv => lhs; whnf) <;> rfl) fun b7 hb7 => ?_
    refine W_store (i := 0) rfl rfl rfl (ev_t rfl (by (conv => lhs; whnf) <;> rfl)) (ev_t rfl (by (conv => lhs; whnf) <;> rfl)) rfl (by first | exact vcells_gr | exact vcells_rd | exact (SlOf.cells (by assumption)).1 | ((conv => lhs; whnf) <;> rfl)) T125 rfl rfl (by first | rfl | (simp only [List.all_cons, List.all_nil, vcells, tv.cm, tv.cp]; rfl) | (simp; done) | (simp [cellOK]; done)) (by simp only [wr]; exact rfl) (by simp only [zset]; exact rfl) ?_
    refine W_done ?_
    refine endsA_of (by simp) ?_
    refine W_block ?_
    refine W_region rfl ?_
    refine W_pure rfl rfl (po_load (i := 4) (ev_t rfl (by (conv => lhs; whnf) <;> rfl)) K31 A31 rfl rfl) ?_
    refine W_pure rfl rfl (po_fieldAddr (ev_t rfl (by (conv => lhs; whnf) <;> rfl)) F125_3 T3 (by (conv => lhs; whnf) <;> rfl)) ?_
    refine W_pure rfl rfl (po_load (i := 0) (ev_t rfl (by (conv => lhs; whnf) <;> rfl)) K3 A3 rfl rfl) ?_
    refine W_pureD rfl rfl (po_sliceD rfl U31 Z3 T3 rfl (evp_cons (ev_t rfl (by (conv => lhs; whnf) <;> rfl)) evp_nil) rfl (by first | rfl | simp [vcells]) (by simp [listSet]; rfl)) ?_
    refine W_eff rfl rfl (eff_append (i := 5) rfl rfl U31 U31 (by intro k h; cases h) T3 B3 rfl ZO3 (ev_t rfl (by (conv => lhs; whnf) <;> rfl)) (ev_t rfl (by (conv => lhs; whnf) <;> rfl)) (by first | exact SlOf.sl | exact SlOf.gr | exact SlOf.rd | exact SlOf.nil | assumption) rfl (by simp) (by simp [vcells, cellOK]) (by first | (simp [vcells]; done) | (simp only [List.mem_map]; rintro x ⟨p, -, rfl⟩; rfl)) (by simp at *; omega) (by simp only [zset]; exact rfl)) fun _ h_ => ?_
    refine W_store (i := 4) rfl rfl rfl (ev_t rfl (by (conv => lhs; whnf) <;> rfl)) (ev_t rfl (by (conv => lhs; whnf) <;> rfl)) rfl (by first | exact vcells_gr | exact vcells_rd | exact (SlOf.cells (by assumption)).1 | ((conv => lhs; whnf) <;> rfl)) T31 rfl rfl (by first | rfl | (simp only [List.all_cons, List.all_nil, vcells, tv.cm, tv.cp]; rfl) | (simp; done) | (simp [cellOK]; done)) (by simp only [wr]; exact rfl) (by simp only [zset]; exact rfl) ?_
    refine W_done ?_
    refine W_inB ?_
    refine W_less (.cons _ (.cons_cons _ (.cons_cons _ (.cons_cons _ (.cons_cons _ (.cons_cons _ (.cons_cons _ .slnil))))))) ?_
    exact endsB_of (s ++ [(fun l : Leg => l.load) (legAt t order i)]) rfl (by simp [zsets, zset]) ⟨fun _ => by rw [hI0, List.take_add_one, hl0]; simp, fun h => absurd rfl h⟩
  · rintro s hI0
    have hsl : s = (legsL t order).map (fun l => l.load) := by rw [hI0, List.length_map, List.take_length]
    refine W_eqZ (by simp only [zsets, zset]; exact rfl) ?_
    refine W_inB ?_
    refine W_seq ?_
    refine W_region rfl ?_
    refine W_pure rfl rfl (po_load (i := 3) (ev_t rfl (by (conv => lhs; whnf) <;> rfl)) K31 A31 rfl rfl) ?_
    refine W_store (i := 3) rfl rfl rfl (ev_t rfl (by (conv => lhs; whnf) <;> rfl)) (ev_t rfl (by (conv => lhs; whnf) <;> rfl)) rfl (by first | exact vcells_gr | exact vcells_rd | exact (SlOf.cells (by assumption)).1 | ((conv => lhs; whnf) <;> rfl)) T31 rfl rfl (by first | rfl | (simp only [List.all_cons, List.all_nil, vcells, tv.cm, tv.cp]; rfl) | (simp; done) | (simp [cellOK]; done)) (by simp only [wr]; exact rfl) (by simp only [zset]; exact rfl) ?_
    refine W_pure rfl rfl (po_assign rfl) ?_
    refine W_done ?_
    exact W_ret fun fr σ' hf hz => ends_of (.inr rfl) hf hz rfl (show resOf _ _ _ _ _ from ⟨_, _, rfl, po_load (i := 3) (ev_t rfl (by (conv => lhs; whnf) <;> rfl)) K31 A31 rfl rfl, ⟨_, _, rfl, ev_t rfl (by (conv => lhs; whnf) <;> rfl), rfl⟩⟩) rfl fun τ hz2 => by clear hf hz; subst hsl; have hfz := freeze_gr (P := TC.P) (σ := τ) (d := 3) (nb := true) hr4 (frL_still (xs := ((legsL t order).map (fun l => l.load)).map int) (by simp [Still.int])); simp only [packV, Ev.freeze, Ev.freeze.frL, hfz]; rfl
  · rintro i e s c hi hJ hc; exact hJ.elim

theorem c41 (t : Tsk) (vm vp : V) (tv : TaskV t vm vp) (order : List Int) (vo : V) (ho : SlOf vo (order.map int)) (ok : OkTask t) (oo : OkOrder t order) (σ : St) : Run TC (.app false (.func (.func 41) [] []) [taskV t vm vp, vo]) σ (.val (.tup [rdSl true (((legsL t order).map (fun l => l.comes)).map span), int 0])) σ := by
  have ol := OkLegs.of ok oo
  have hlo := oo.len
  refine fn_pure (n := 27) (fn := Try.f41) rfl Try.func41 rfl rfl rfl ?_
  refine W_seq ?_
  refine W_region rfl ?_
  refine W_box rfl rfl rfl (ev_t rfl (by (conv => lhs; whnf) <;> rfl)) (by first | exact vcells_gr | exact vcells_rd | exact (SlOf.cells (by assumption)).1 | ((conv => lhs; whnf) <;> rfl)) fun b2 hb2 => ?_
  refine W_allocG rfl rfl rfl Z51 U51 fun r4 b4 hr4 hb4 => ?_
  refine W_pure rfl rfl (po_assign rfl) ?_
  refine W_done ?_
  refine W_seq ?_
  refine W_region rfl ?_
  refine W_pure rfl rfl (po_loadA (i := 2) (ev_t rfl (by (conv => lhs; whnf) <;> rfl)) K40 A40 T40 rfl rfl (by simp only [sub]; exact rfl)) ?_
  refine W_pure rfl rfl (po_move (ev_t rfl (by (conv => lhs; whnf) <;> rfl))) ?_
  refine W_call rfl rfl rfl rfl rfl (evl_cons (ev_t rfl (by (conv => lhs; whnf) <;> rfl)) (evl_cons (ev_t rfl (by (conv => lhs; whnf) <;> rfl)) evl_nil)) (fun σ hz => c36 t vm vp tv ok order vo ho oo σ) ?_
  refine W_pure rfl rfl (po_move (ev_t rfl (by (conv => lhs; whnf) <;> rfl))) ?_
  refine W_pure rfl rfl (po_extract (ev_t rfl (by (conv => lhs; whnf) <;> rfl)) rfl) ?_
  refine W_pure rfl rfl (po_extract (ev_t rfl (by (conv => lhs; whnf) <;> rfl)) rfl) ?_
  refine W_alloc rfl rfl rfl Z119 (fun t h => by cases h) (by (conv => lhs; whnf) <;> rfl) fun b6 hb6 => ?_
  refine W_store (i := 0) rfl rfl rfl (ev_t rfl (by (conv => lhs; whnf) <;> rfl)) (ev_t rfl (by (conv => lhs; whnf) <;> rfl)) rfl (by first | exact vcells_gr | exact vcells_rd | exact (SlOf.cells (by assumption)).1 | ((conv => lhs; whnf) <;> rfl)) T119 rfl rfl (by first | rfl | (simp only [List.all_cons, List.all_nil, vcells, tv.cm, tv.cp]; rfl) | (simp; done) | (simp [cellOK]; done)) (by simp only [wr]; exact rfl) (by simp only [zset]; exact rfl) ?_
  refine W_pure rfl rfl (po_assign (ev_t rfl (by (conv => lhs; whnf) <;> rfl))) ?_
  refine W_done ?_
  refine W_seq ?_
  refine W_seq ?_
  refine W_region rfl ?_
  refine W_pure rfl rfl (po_move (ev_t rfl (by (conv => lhs; whnf) <;> rfl))) ?_
  refine W_pure rfl rfl (po_bin (ev_t rfl (by (conv => lhs; whnf) <;> rfl)) rfl (by (conv => lhs; whnf) <;> rfl)) ?_
  refine W_known 15 false (by (conv => lhs; whnf) <;> rfl) (by first | rfl | (congr 1; simp; done) | (congr 1; simp; omega) | (congr 1; simp only [decide_eq_true_eq, decide_eq_false_iff_not, List.length_map]; omega) | (congr 1; simp_all; done) | (congr 1; simp_all; omega)) ?_
  refine W_done ?_
  refine W_else (ev_t rfl (by (conv => lhs; whnf) <;> rfl)) ?_
  refine W_skip ?_
  refine W_seq ?_
  refine W_seq ?_
  refine W_region rfl ?_
  refine W_pure rfl rfl (po_loadA (i := 0) (ev_t rfl (by (conv => lhs; whnf) <;> rfl)) K119 A119 T119 rfl rfl (by simp only [sub]; exact rfl)) ?_
  refine W_pure rfl rfl (po_move (ev_t rfl (by (conv => lhs; whnf) <;> rfl))) ?_
  refine W_callN2 rfl rfl rfl rfl rfl (evl_cons (ev_t rfl (by (conv => lhs; whnf) <;> rfl)) (evl_cons (ev_t rfl (by (conv => lhs; whnf) <;> rfl)) evl_nil)) (fun σ hz => c37 vm vp (int t.holds) (int t.leaves) (int t.back) vo ho.cells.1 ho.cells.2 σ) fun q1 q2 hq1 hq2 => ?_
  refine W_done ?_
  refine W_block ?_
  refine W_rangeI (S := List (Int × Int)) [3, 4] (fun s => [.cells 51 [grSl true r4 (s.map span)], .tok 33 s.length]) ([]) (fun i s => s = ((legsL t order).take i).map (fun l => l.comes)) (fun i e s => False) ((it85 t vm vp tv order vo ho ol q1 q2)) (ev_t rfl (by (conv => lhs; whnf) <;> rfl)) rfl (by intro l h; cases h) rfl (fun σ o hz => ⟨hz.getA (i := 0) rfl, hz.getA (i := 1) rfl⟩) rfl (need_new (ns := [0, 1]) rfl rfl rfl) (by simp [zsets, zset, grSl_nilT, grSl_nilF]) (by simp) (by simp) (by simp) ?_ ?_ ?_
  · rintro i xv s lr σl frl hv0 hI0
    obtain ⟨hl0, rfl, hil⟩ := legs_of hv0
    have hsl : s.length ≤ 13 := by rw [hI0]; simp [legs_len]; omega
    refine W_eqZ (by simp only [zsets, zset]; exact rfl) ?_
    refine W_region rfl ?_
    refine W_alloc rfl rfl rfl Z125 (fun t h => by cases h) (by (conv => lhs; whnf) <;> rfl) fun b7 hb7 => ?_
    refine W_store (i := 0) rfl rfl rfl (ev_t rfl (by (conv => lhs; whnf) <;> rfl)) (ev_t rfl (by (conv => lhs; whnf) <;> rfl)) rfl (by first | exact vcells_gr | exact vcells_rd | exact (SlOf.cells (by assumption)).1 | ((conv => lhs; whnf) <;> rfl)) T125 rfl rfl (by first | rfl | (simp only [List.all_cons, List.all_nil, vcells, tv.cm, tv.cp]; rfl) | (simp; done) | (simp [cellOK]; done)) (by simp only [wr]; exact rfl) (by simp only [zset]; exact rfl) ?_
    refine W_done ?_
    refine endsA_of (by simp) ?_
    refine W_block ?_
    refine W_region rfl ?_
    refine W_pure rfl rfl (po_load (i := 4) (ev_t rfl (by (conv => lhs; whnf) <;> rfl)) K51 A51 rfl rfl) ?_
    refine W_pure rfl rfl (po_fieldAddr (ev_t rfl (by (conv => lhs; whnf) <;> rfl)) F125_5 T33 (by (conv => lhs; whnf) <;> rfl)) ?_
    refine W_pure rfl rfl (po_loadA (i := 0) (ev_t rfl (by (conv => lhs; whnf) <;> rfl)) K33 A33 T33 rfl rfl (by simp only [sub]; exact rfl)) ?_
    refine W_pureD rfl rfl (po_sliceD rfl U51 Z33 T33 rfl (evp_cons (ev_t rfl (by (conv => lhs; whnf) <;> rfl)) evp_nil) rfl (by first | rfl | simp [vcells]) (by simp [listSet]; rfl)) ?_
    refine W_eff rfl rfl (eff_append (i := 5) rfl rfl U51 U51 (by intro k h; cases h) T33 B33 rfl ZO33 (ev_t rfl (by (conv => lhs; whnf) <;> rfl)) (ev_t rfl (by (conv => lhs; whnf) <;> rfl)) (by first | exact SlOf.sl | exact SlOf.gr | exact SlOf.rd | exact SlOf.nil | assumption) rfl (by simp) (by simp [vcells, cellOK]) (by first | (simp [vcells]; done) | (simp only [List.mem_map]; rintro x ⟨p, -, rfl⟩; rfl)) (by simp at *; omega) (by simp only [zset]; exact rfl)) fun _ h_ => ?_
    refine W_store (i := 4) rfl rfl rfl (ev_t rfl (by (conv => lhs; whnf) <;> rfl)) (ev_t rfl (by (conv => lhs; whnf) <;> rfl)) rfl (by first | exact vcells_gr | exact vcells_rd | exact (SlOf.cells (by assumption)).1 | ((conv => lhs; whnf) <;> rfl)) T51 rfl rfl (by first | rfl | (simp only [List.all_cons, List.all_nil, vcells, tv.cm, tv.cp]; rfl) | (simp; done) | (simp [cellOK]; done)) (by simp only [wr]; exact rfl) (by simp only [zset]; exact rfl) ?_
    refine W_done ?_
    refine W_inB ?_
    refine W_less (.cons _ (.cons_cons _ (.cons_cons _ (.cons_cons _ (.cons_cons _ (.cons_cons _ (.cons_cons _ .slnil))))))) ?_
    exact endsB_of (s ++ [(fun l : Leg => l.comes) (legAt t order i)]) rfl (by simp [zsets, zset]) ⟨fun _ => by rw [hI0, List.take_add_one, hl0]; simp, fun h => absurd rfl h⟩
  · rintro s hI0
    have hsl : s = (legsL t order).map (fun l => l.comes) := by rw [hI0, List.length_map, List.take_length]
    refine W_eqZ (by simp only [zsets, zset]; exact rfl) ?_
    refine W_inB ?_
    refine W_seq ?_
    refine W_region rfl ?_
    refine W_pure rfl rfl (po_load (i := 3) (ev_t rfl (by (conv => lhs; whnf) <;> rfl)) K51 A51 rfl rfl) ?_
    refine W_store (i := 3) rfl rfl rfl (ev_t rfl (by (conv => lhs; whnf) <;> rfl)) (ev_t rfl (by (conv => lhs; whnf) <;> rfl)) rfl (by first | exact vcells_gr | exact vcells_rd | exact (SlOf.cells (by assumption)).1 | ((conv => lhs; whnf) <;> rfl)) T51 rfl rfl (by first | rfl | (simp only [List.all_cons, List.all_nil, vcells, tv.cm, tv.cp]; rfl) | (simp; done) | (simp [cellOK]; done)) (by simp only [wr]; exact rfl) (by simp only [zset]; exact rfl) ?_
    refine W_pure rfl rfl (po_assign rfl) ?_
    refine W_done ?_
    exact W_ret fun fr σ' hf hz => ends_of (.inr rfl) hf hz rfl (show resOf _ _ _ _ _ from ⟨_, _, rfl, po_load (i := 3) (ev_t rfl (by (conv => lhs; whnf) <;> rfl)) K51 A51 rfl rfl, ⟨_, _, rfl, ev_t rfl (by (conv => lhs; whnf) <;> rfl), rfl⟩⟩) rfl fun τ hz2 => by clear hf hz; subst hsl; have hfz := freeze_gr (P := TC.P) (σ := τ) (d := 3) (nb := true) hr4 (frL_still (xs := ((legsL t order).map (fun l => l.comes)).map span) (by simp [Still.agg, Still.int])); simp only [packV, Ev.freeze, Ev.freeze.frL, hfz]; rfl
  · rintro i e s c hi hJ hc; exact hJ.elim


/-! ### Faults -/
def full (t : Tsk) (l : Leg) : Bool := decide (l.load > t.holds)
def faulty (t : Tsk) (l : Leg) : Bool := full t l || decide (l.comes.2 > untilF t l.to)
def faultF (t : Tsk) (order : List Int) : Int × Bool × Int :=
  match (legsL t order).find? (faulty t) with
  | some l => (l.number, full t l || decide (l.comes.1 > untilF t l.to), 0)
  | none => (0, false, 7)
theorem find_first {α : Type} {p : α → Bool} {l : List α} {i : Nat} {x : α} (hx : l[i]? = some x) (hp : p x = true) (hb : ∀ y ∈ l.take i, p y = false) : l.find? p = some x := by
  obtain ⟨hi, rfl⟩ := List.getElem?_eq_some_iff.1 hx
  rw [List.find?_eq_some_iff_getElem]
  refine ⟨hp, i, hi, rfl, fun j hj => ?_⟩
  have := hb l[j] (List.mem_take_iff_getElem.2 ⟨j, by omega, rfl⟩)
  simp [this]
theorem find_not {α : Type} {p : α → Bool} {l : List α} (hb : ∀ y ∈ l, p y = false) : l.find? p = none := by
  rw [List.find?_eq_none]
  intro x hx
  simp [hb x hx]
theorem take_step {α : Type} {p : α → Bool} {l : List α} {i : Nat} {x : α} (hx : l[i]? = some x) (hp : p x = false) (hb : ∀ y ∈ l.take i, p y = false) : ∀ y ∈ l.take (i + 1), p y = false := by
  intro y hy
  rw [List.take_add_one, hx] at hy
  simp at hy
  rcases hy with hy | rfl
  · exact hb y hy
  · exact hp

theorem c11 (t : Tsk) (vm vp : V) (tv : TaskV t vm vp) (order : List Int) (vo : V) (ho : SlOf vo (order.map int)) (ok : OkTask t) (oo : OkOrder t order) (σ : St) : Run TC (.app false (.func (.func 11) [] []) [taskV t vm vp, vo]) σ (.val (.tup [int (faultF t order).1, .bool (faultF t order).2.1, int (faultF t order).2.2])) σ := by
  have ol := OkLegs.of ok oo
  have hlo := oo.len
  refine fn_pure (n := 53) (fn := Try.f11) rfl Try.func11 rfl rfl rfl ?_
  refine W_seq ?_
  refine W_region rfl ?_
  refine W_box rfl rfl rfl (ev_t rfl (by (conv => lhs; whnf) <;> rfl)) (by first | exact vcells_gr | exact vcells_rd | exact (SlOf.cells (by assumption)).1 | ((conv => lhs; whnf) <;> rfl)) fun b2 hb2 => ?_
  refine W_alloc rfl rfl rfl Z3 (fun t h => by cases h) (by (conv => lhs; whnf) <;> rfl) fun b4 hb4 => ?_
  refine W_alloc rfl rfl rfl Z4 (fun t h => by cases h) (by (conv => lhs; whnf) <;> rfl) fun b5 hb5 => ?_
  refine W_alloc rfl rfl rfl Z34 (fun t h => by cases h) (by (conv => lhs; whnf) <;> rfl) fun b6 hb6 => ?_
  refine W_done ?_
  refine W_seq ?_
  refine W_region rfl ?_
  refine W_pure rfl rfl (po_loadA (i := 3) (ev_t rfl (by (conv => lhs; whnf) <;> rfl)) K40 A40 T40 rfl rfl (by simp only [sub]; exact rfl)) ?_
  refine W_pure rfl rfl (po_move (ev_t rfl (by (conv => lhs; whnf) <;> rfl))) ?_
  refine W_call rfl rfl rfl rfl rfl (evl_cons (ev_t rfl (by (conv => lhs; whnf) <;> rfl)) (evl_cons (ev_t rfl (by (conv => lhs; whnf) <;> rfl)) evl_nil)) (fun σ hz => c36 t vm vp tv ok order vo ho oo σ) ?_
  refine W_pure rfl rfl (po_move (ev_t rfl (by (conv => lhs; whnf) <;> rfl))) ?_
  refine W_pure rfl rfl (po_extract (ev_t rfl (by (conv => lhs; whnf) <;> rfl)) rfl) ?_
  refine W_pure rfl rfl (po_extract (ev_t rfl (by (conv => lhs; whnf) <;> rfl)) rfl) ?_
  refine W_alloc rfl rfl rfl Z119 (fun t h => by cases h) (by (conv => lhs; whnf) <;> rfl) fun b7 hb7 => ?_
  refine W_store (i := 0) rfl rfl rfl (ev_t rfl (by (conv => lhs; whnf) <;> rfl)) (ev_t rfl (by (conv => lhs; whnf) <;> rfl)) rfl (by first | exact vcells_gr | exact vcells_rd | exact (SlOf.cells (by assumption)).1 | ((conv => lhs; whnf) <;> rfl)) T119 rfl rfl (by first | rfl | (simp only [List.all_cons, List.all_nil, vcells, tv.cm, tv.cp]; rfl) | (simp; done) | (simp [cellOK]; done)) (by simp only [wr]; exact rfl) (by simp only [zset]; exact rfl) ?_
  refine W_store (i := 1) rfl rfl rfl (ev_t rfl (by (conv => lhs; whnf) <;> rfl)) (ev_t rfl (by (conv => lhs; whnf) <;> rfl)) rfl (by first | exact vcells_gr | exact vcells_rd | exact (SlOf.cells (by assumption)).1 | ((conv => lhs; whnf) <;> rfl)) T34 rfl rfl (by first | rfl | (simp only [List.all_cons, List.all_nil, vcells, tv.cm, tv.cp]; rfl) | (simp; done) | (simp [cellOK]; done)) (by simp only [wr]; exact rfl) (by simp only [zset]; exact rfl) ?_
  refine W_done ?_
  refine W_seq ?_
  refine W_seq ?_
  refine W_region rfl ?_
  refine W_pure rfl rfl (po_load (i := 1) (ev_t rfl (by (conv => lhs; whnf) <;> rfl)) K34 A34 rfl rfl) ?_
  refine W_pure rfl rfl (po_bin (ev_t rfl (by (conv => lhs; whnf) <;> rfl)) rfl (by (conv => lhs; whnf) <;> rfl)) ?_
  refine W_known 17 false (by (conv => lhs; whnf) <;> rfl) (by first | rfl | (congr 1; simp; done) | (congr 1; simp; omega) | (congr 1; simp only [decide_eq_true_eq, decide_eq_false_iff_not, List.length_map]; omega) | (congr 1; simp_all; done) | (congr 1; simp_all; omega)) ?_
  refine W_done ?_
  refine W_else (ev_t rfl (by (conv => lhs; whnf) <;> rfl)) ?_
  refine W_skip ?_
  refine W_seq ?_
  refine W_seq ?_
  refine W_region rfl ?_
  refine W_pure rfl rfl (po_loadA (i := 0) (ev_t rfl (by (conv => lhs; whnf) <;> rfl)) K119 A119 T119 rfl rfl (by simp only [sub]; exact rfl)) ?_
  refine W_pure rfl rfl (po_move (ev_t rfl (by (conv => lhs; whnf) <;> rfl))) ?_
  refine W_callN2 rfl rfl rfl rfl rfl (evl_cons (ev_t rfl (by (conv => lhs; whnf) <;> rfl)) (evl_cons (ev_t rfl (by (conv => lhs; whnf) <;> rfl)) evl_nil)) (fun σ hz => c37 vm vp (int t.holds) (int t.leaves) (int t.back) vo ho.cells.1 ho.cells.2 σ) fun q1 q2 hq1 hq2 => ?_
  refine W_done ?_
  refine W_block ?_
  refine W_rangeI (S := Int × Bool × Int) [5, 4, 3] (fun ⟨a, b, c⟩ => [.cells 3 [int a], .cells 4 [.bool b], .cells 34 [int c]]) (0, false, 0) (fun i ⟨a, b, c⟩ => (a = 0 ∧ b = false ∧ c = 0) ∧ ∀ l ∈ (legsL t order).take i, faulty t l = false) (fun i e ⟨a, b, c⟩ => e = .ret ∧ (a, b, c) = faultF t order) ((it85 t vm vp tv order vo ho ol q1 q2)) (ev_t rfl (by (conv => lhs; whnf) <;> rfl)) rfl (by intro l h; cases h) rfl (fun σ o hz => ⟨hz.getA (i := 0) rfl, hz.getA (i := 1) rfl⟩) rfl (need_new (ns := [0, 1]) rfl rfl rfl) (by simp [zsets, zset, grSl_nilT, grSl_nilF]) (by simp) (by simp) (⟨⟨rfl, rfl, rfl⟩, by simp⟩) ?_ ?_ ?_
  · rintro i xv ⟨a, b, c⟩ lr σl frl hv0 hI0
    obtain ⟨hl0, rfl, hil⟩ := legs_of hv0
    obtain ⟨⟨rfl, rfl, rfl⟩, hbef⟩ := hI0
    have hto := toAt_ok oo.within i
    refine W_eqZ (by simp only [zsets, zset]; exact rfl) ?_
    refine W_region rfl ?_
    refine W_alloc rfl rfl rfl Z125 (fun t h => by cases h) (by (conv => lhs; whnf) <;> rfl) fun b8 hb8 => ?_
    refine W_store (i := 0) rfl rfl rfl (ev_t rfl (by (conv => lhs; whnf) <;> rfl)) (ev_t rfl (by (conv => lhs; whnf) <;> rfl)) rfl (by first | exact vcells_gr | exact vcells_rd | exact (SlOf.cells (by assumption)).1 | ((conv => lhs; whnf) <;> rfl)) T125 rfl rfl (by first | rfl | (simp only [List.all_cons, List.all_nil, vcells, tv.cm, tv.cp]; rfl) | (simp; done) | (simp [cellOK]; done)) (by simp only [wr]; exact rfl) (by simp only [zset]; exact rfl) ?_
    refine W_done ?_
    refine endsA_of (by simp) ?_
    refine W_block ?_
    refine W_seq ?_
    refine W_region rfl ?_
    refine W_pure rfl rfl (po_fieldAddr (ev_t rfl (by (conv => lhs; whnf) <;> rfl)) F125_3 T3 (by (conv => lhs; whnf) <;> rfl)) ?_
    refine W_pure rfl rfl (po_load (i := 0) (ev_t rfl (by (conv => lhs; whnf) <;> rfl)) K3 A3 rfl rfl) ?_
    refine W_pure rfl rfl (po_fieldAddr (ev_t rfl (by (conv => lhs; whnf) <;> rfl)) F119_0 T40 (by (conv => lhs; whnf) <;> rfl)) ?_
    refine W_pure rfl rfl (po_fieldAddr (ev_t rfl (by (conv => lhs; whnf) <;> rfl)) F40_2 T3 (by (conv => lhs; whnf) <;> rfl)) ?_
    refine W_pure rfl rfl (po_load (i := 3) (ev_t rfl (by (conv => lhs; whnf) <;> rfl)) K3 A3 rfl rfl) ?_
    refine W_pure rfl rfl (po_bin (ev_t rfl (by (conv => lhs; whnf) <;> rfl)) (ev_t rfl (by (conv => lhs; whnf) <;> rfl)) (by (conv => lhs; whnf) <;> rfl)) ?_
    refine W_pure rfl rfl (po_assign (ev_t rfl (by (conv => lhs; whnf) <;> rfl))) ?_
    refine W_done ?_
    refine W_seq ?_
    refine W_drawI (cs := []) (gl := [0, 1, 2, 3, 4, 5, 6, 7, 8, 9, 10]) [] (by simp only [zdrop, List.any_cons, List.any_nil, Nat.beq, Bool.or_false, cond_true, cond_false]; exact rfl) rfl rfl ?_
    refine DE_pureW (.cons_cons _ (.cons_cons _ (.cons_cons _ (.cons_cons _ (.cons_cons _ (.cons_cons _ (.cons_cons _ (.cons_cons _ .slnil)))))))) (want_none rfl) rfl (po_move (ev_t rfl (by (conv => lhs; whnf) <;> rfl))) ?_
    refine DE_pureW (.cons_cons _ (.cons_cons _ (.cons_cons _ (.cons_cons _ (.cons_cons _ (.cons_cons _ (.cons_cons _ (.cons_cons _ .slnil)))))))) (want_none rfl) rfl (po_move (ev_t rfl (by (conv => lhs; whnf) <;> rfl))) ?_
    refine DE_split (t := 30) (by (conv => lhs; whnf) <;> rfl) (fun g1 => ?_) (fun g1 => ?_)
    · (try simp only [decide_eq_true_eq, decide_eq_false_iff_not, beq_iff_eq, beq_eq_false_iff_ne, bne_iff_ne, ne_eq, bne_eq_false_iff_eq, Bool.not_eq_true', Bool.not_eq_false', Bool.not_eq_true, Bool.not_eq_false, Bool.not_false, Bool.not_true, not_lt, not_le, Int.not_lt, Int.not_le, Decidable.not_not] at g1); (try simp at g1)
      refine DE_idleW (.cons_cons _ (.cons_cons _ (.cons_cons _ (.cons_cons _ (.cons_cons _ (.cons_cons _ (.cons_cons _ (.cons_cons _ .slnil)))))))) (want_no rfl rfl rfl rfl rfl) rfl ?_
      refine DE_idleW (.cons_cons _ (.cons_cons _ (.cons_cons _ (.cons_cons _ (.cons_cons _ (.cons_cons _ (.cons_cons _ (.cons_cons _ .slnil)))))))) (want_no rfl rfl rfl rfl rfl) rfl ?_
      refine DE_idleW (.cons_cons _ (.cons_cons _ (.cons_cons _ (.cons_cons _ (.cons_cons _ (.cons_cons _ (.cons_cons _ (.cons_cons _ .slnil)))))))) (want_no rfl rfl rfl rfl rfl) rfl ?_
      refine DE_idleW (.cons_cons _ (.cons_cons _ (.cons_cons _ (.cons_cons _ (.cons_cons _ (.cons_cons _ (.cons_cons _ (.cons_cons _ .slnil)))))))) (want_no rfl rfl rfl rfl rfl) rfl ?_
      refine DE_idleW (.cons_cons _ (.cons_cons _ (.cons_cons _ (.cons_cons _ (.cons_cons _ (.cons_cons _ (.cons_cons _ (.cons_cons _ .slnil)))))))) (want_no rfl rfl rfl rfl rfl) rfl ?_
      refine DE_idleW (.cons_cons _ (.cons_cons _ (.cons_cons _ (.cons_cons _ (.cons_cons _ (.cons_cons _ (.cons_cons _ (.cons_cons _ .slnil)))))))) (want_no rfl rfl rfl rfl rfl) rfl ?_
      refine DE_idleW (.cons_cons _ (.cons_cons _ (.cons_cons _ (.cons_cons _ (.cons_cons _ (.cons_cons _ (.cons_cons _ (.cons_cons _ .slnil)))))))) (want_no rfl rfl rfl rfl rfl) rfl ?_
      refine DE_idleW (.cons_cons _ (.cons_cons _ (.cons_cons _ (.cons_cons _ (.cons_cons _ (.cons_cons _ (.cons_cons _ (.cons_cons _ .slnil)))))))) (want_no rfl rfl rfl rfl rfl) rfl ?_
      refine DE_pureW (.cons_cons _ (.cons_cons _ (.cons_cons _ (.cons_cons _ (.cons_cons _ (.cons_cons _ (.cons_cons _ (.cons_cons _ .slnil)))))))) (want_none rfl) rfl (po_pickT (ev_t rfl (by (conv => lhs; whnf) <;> rfl)) rfl) ?_
      refine DE_nil (.cons_cons _ (.cons_cons _ (.cons_cons _ (.cons_cons _ (.cons_cons _ (.cons_cons _ (.cons_cons _ (.cons_cons _ .slnil)))))))) ?_
      refine W_then (ev_t rfl (by (conv => lhs; whnf) <;> rfl)) ?_
      refine W_seq ?_
      refine W_drawI (cs := [13, 14, 15]) (gl := [0, 1, 2, 3, 4, 5, 6, 7, 8, 9, 10, 11, 13, 12, 14, 15]) [5, 4, 6] (by simp only [zdrop, List.any_cons, List.any_nil, Nat.beq, Bool.or_false, cond_true, cond_false]; exact rfl) rfl rfl ?_
      refine DE_pureW (.cons_cons _ (.cons_cons _ (.cons_cons _ (.cons_cons _ (.cons _ (.cons _ (.cons _ (.cons_cons _ .slnil)))))))) (want_none rfl) rfl (po_fieldAddr (ev_t rfl (by (conv => lhs; whnf) <;> rfl)) F125_0 T3 (by (conv => lhs; whnf) <;> rfl)) ?_
      refine DE_pureW (.cons_cons _ (.cons_cons _ (.cons_cons _ (.cons_cons _ (.cons _ (.cons _ (.cons _ (.cons_cons _ .slnil)))))))) (want_none rfl) rfl (po_load (i := 0) (ev_t rfl (by (conv => lhs; whnf) <;> rfl)) K3 A3 rfl rfl) ?_
      refine DE_pureW (.cons_cons _ (.cons_cons _ (.cons_cons _ (.cons_cons _ (.cons _ (.cons _ (.cons _ (.cons_cons _ .slnil)))))))) (want_none rfl) rfl (po_move (ev_t rfl (by (conv => lhs; whnf) <;> rfl))) ?_
      refine DE_pureW (.cons_cons _ (.cons_cons _ (.cons_cons _ (.cons_cons _ (.cons _ (.cons _ (.cons _ (.cons_cons _ .slnil)))))))) (want_none rfl) rfl (po_move (ev_t rfl (by (conv => lhs; whnf) <;> rfl))) ?_
      refine DE_split (t := 43) (by (conv => lhs; whnf) <;> rfl) (fun g2 => ?_) (fun g2 => ?_)
      · (try simp only [decide_eq_true_eq, decide_eq_false_iff_not, beq_iff_eq, beq_eq_false_iff_ne, bne_iff_ne, ne_eq, bne_eq_false_iff_eq, Bool.not_eq_true', Bool.not_eq_false', Bool.not_eq_true, Bool.not_eq_false, Bool.not_false, Bool.not_true, not_lt, not_le, Int.not_lt, Int.not_le, Decidable.not_not] at g2); (try simp at g2)
        refine DE_idleW (.cons_cons _ (.cons_cons _ (.cons_cons _ (.cons_cons _ (.cons _ (.cons _ (.cons _ (.cons_cons _ .slnil)))))))) (want_no rfl rfl rfl rfl rfl) rfl ?_
        refine DE_idleW (.cons_cons _ (.cons_cons _ (.cons_cons _ (.cons_cons _ (.cons _ (.cons _ (.cons _ (.cons_cons _ .slnil)))))))) (want_no rfl rfl rfl rfl rfl) rfl ?_
        refine DE_idleW (.cons_cons _ (.cons_cons _ (.cons_cons _ (.cons_cons _ (.cons _ (.cons _ (.cons _ (.cons_cons _ .slnil)))))))) (want_no rfl rfl rfl rfl rfl) rfl ?_
        refine DE_idleW (.cons_cons _ (.cons_cons _ (.cons_cons _ (.cons_cons _ (.cons _ (.cons _ (.cons _ (.cons_cons _ .slnil)))))))) (want_no rfl rfl rfl rfl rfl) rfl ?_
        refine DE_idleW (.cons_cons _ (.cons_cons _ (.cons_cons _ (.cons_cons _ (.cons _ (.cons _ (.cons _ (.cons_cons _ .slnil)))))))) (want_no rfl rfl rfl rfl rfl) rfl ?_
        refine DE_idleW (.cons_cons _ (.cons_cons _ (.cons_cons _ (.cons_cons _ (.cons _ (.cons _ (.cons _ (.cons_cons _ .slnil)))))))) (want_no rfl rfl rfl rfl rfl) rfl ?_
        refine DE_idleW (.cons_cons _ (.cons_cons _ (.cons_cons _ (.cons_cons _ (.cons _ (.cons _ (.cons _ (.cons_cons _ .slnil)))))))) (want_no rfl rfl rfl rfl rfl) rfl ?_
        refine DE_idleW (.cons_cons _ (.cons_cons _ (.cons_cons _ (.cons_cons _ (.cons _ (.cons _ (.cons _ (.cons_cons _ .slnil)))))))) (want_no rfl rfl rfl rfl rfl) rfl ?_
        refine DE_pureW (.cons_cons _ (.cons_cons _ (.cons_cons _ (.cons_cons _ (.cons _ (.cons _ (.cons _ (.cons_cons _ .slnil)))))))) (want_none rfl) rfl (po_pickT (ev_t rfl (by (conv => lhs; whnf) <;> rfl)) rfl) ?_
        refine DE_eff0 (.cons_cons _ (.cons_cons _ (.cons_cons _ (.cons_cons _ (.cons _ (.cons _ (.cons _ (.cons_cons _ .slnil)))))))) (want_none rfl) rfl rfl (eff_store (i := 6) (ev_t rfl (by (conv => lhs; whnf) <;> rfl)) (ev_t rfl (by (conv => lhs; whnf) <;> rfl)) rfl (by first | exact vcells_gr | exact vcells_rd | exact (SlOf.cells (by assumption)).1 | ((conv => lhs; whnf) <;> rfl)) T3 rfl rfl (by first | rfl | (simp only [List.all_cons, List.all_nil, vcells, tv.cm, tv.cp]; rfl) | (simp; done) | (simp [cellOK]; done)) (by simp only [wr]; exact rfl) (by simp only [zset]; exact rfl)) fun _ h_ => ?_
        refine DE_eff0 (.cons_cons _ (.cons_cons _ (.cons_cons _ (.cons_cons _ (.cons _ (.cons _ (.cons _ (.cons_cons _ .slnil)))))))) (want_none rfl) rfl rfl (eff_store (i := 5) (ev_t rfl (by (conv => lhs; whnf) <;> rfl)) (ev_t rfl (by (conv => lhs; whnf) <;> rfl)) rfl (by first | exact vcells_gr | exact vcells_rd | exact (SlOf.cells (by assumption)).1 | ((conv => lhs; whnf) <;> rfl)) T4 rfl rfl (by first | rfl | (simp only [List.all_cons, List.all_nil, vcells, tv.cm, tv.cp]; rfl) | (simp; done) | (simp [cellOK]; done)) (by simp only [wr]; exact rfl) (by simp only [zset]; exact rfl)) fun _ h_ => ?_
        refine DE_eff0 (.cons_cons _ (.cons_cons _ (.cons_cons _ (.cons_cons _ (.cons _ (.cons _ (.cons _ (.cons_cons _ .slnil)))))))) (want_none rfl) rfl rfl (eff_store (i := 4) (ev_t rfl (by (conv => lhs; whnf) <;> rfl)) rfl rfl (by first | exact vcells_gr | exact vcells_rd | exact (SlOf.cells (by assumption)).1 | ((conv => lhs; whnf) <;> rfl)) T34 rfl rfl (by first | rfl | (simp only [List.all_cons, List.all_nil, vcells, tv.cm, tv.cp]; rfl) | (simp; done) | (simp [cellOK]; done)) (by simp only [wr]; exact rfl) (by simp only [zset]; exact rfl)) fun _ h_ => ?_
        refine DE_nil (.cons_cons _ (.cons_cons _ (.cons_cons _ (.cons_cons _ (.cons _ (.cons _ (.cons _ (.cons_cons _ .slnil)))))))) ?_
        refine W_less (.cons _ (.cons_cons _ (.cons_cons _ (.cons_cons _ (.cons_cons _ (.cons_cons _ (.cons_cons _ (.cons_cons _ .slnil)))))))) ?_
        exact endsB_ret ((legAt t order i).number, full t (legAt t order i) || decide ((legAt t order i).comes.1 > untilF t (legAt t order i).to), 0) rfl (by clear hbef; simp_all [zsets, zset, full, legAt] <;> omega) ⟨fun h => (by cases h), fun _ => ⟨rfl, by unfold faultF; rw [find_first hl0 (by clear hbef; simp_all [faulty, full, legAt]) hbef]⟩⟩
      · (try simp only [decide_eq_true_eq, decide_eq_false_iff_not, beq_iff_eq, beq_eq_false_iff_ne, bne_iff_ne, ne_eq, bne_eq_false_iff_eq, Bool.not_eq_true', Bool.not_eq_false', Bool.not_eq_true, Bool.not_eq_false, Bool.not_false, Bool.not_true, not_lt, not_le, Int.not_lt, Int.not_le, Decidable.not_not] at g2); (try simp at g2)
        refine DE_pureW (.cons_cons _ (.cons_cons _ (.cons_cons _ (.cons_cons _ (.cons _ (.cons _ (.cons _ (.cons_cons _ .slnil)))))))) (want_yes rfl rfl rfl rfl rfl) rfl (po_fieldAddr (ev_t rfl (by (conv => lhs; whnf) <;> rfl)) F125_5 T33 (by (conv => lhs; whnf) <;> rfl)) ?_
        refine DE_pureW (.cons_cons _ (.cons_cons _ (.cons_cons _ (.cons_cons _ (.cons _ (.cons _ (.cons _ (.cons_cons _ .slnil)))))))) (want_yes rfl rfl rfl rfl rfl) rfl (po_fieldAddr (ev_t rfl (by (conv => lhs; whnf) <;> rfl)) F33_0 T3 (by (conv => lhs; whnf) <;> rfl)) ?_
        refine DE_pureW (.cons_cons _ (.cons_cons _ (.cons_cons _ (.cons_cons _ (.cons _ (.cons _ (.cons _ (.cons_cons _ .slnil)))))))) (want_yes rfl rfl rfl rfl rfl) rfl (po_load (i := 0) (ev_t rfl (by (conv => lhs; whnf) <;> rfl)) K3 A3 rfl rfl) ?_
        refine DE_pureW (.cons_cons _ (.cons_cons _ (.cons_cons _ (.cons_cons _ (.cons _ (.cons _ (.cons _ (.cons_cons _ .slnil)))))))) (want_yes rfl rfl rfl rfl rfl) rfl (po_loadA (i := 3) (ev_t rfl (by (conv => lhs; whnf) <;> rfl)) K119 A119 T119 rfl rfl (by simp only [sub]; exact rfl)) ?_
        refine DE_pureW (.cons_cons _ (.cons_cons _ (.cons_cons _ (.cons_cons _ (.cons _ (.cons _ (.cons _ (.cons_cons _ .slnil)))))))) (want_yes rfl rfl rfl rfl rfl) rfl (po_fieldAddr (ev_t rfl (by (conv => lhs; whnf) <;> rfl)) F125_2 T3 (by (conv => lhs; whnf) <;> rfl)) ?_
        refine DE_pureW (.cons_cons _ (.cons_cons _ (.cons_cons _ (.cons_cons _ (.cons _ (.cons _ (.cons _ (.cons_cons _ .slnil)))))))) (want_yes rfl rfl rfl rfl rfl) rfl (po_load (i := 0) (ev_t rfl (by (conv => lhs; whnf) <;> rfl)) K3 A3 rfl rfl) ?_
        refine DE_callW (.cons_cons _ (.cons_cons _ (.cons_cons _ (.cons_cons _ (.cons _ (.cons _ (.cons _ (.cons_cons _ .slnil)))))))) (want_yes rfl rfl rfl rfl rfl) rfl rfl rfl rfl (evl_cons (ev_t rfl (by (conv => lhs; whnf) <;> rfl)) (evl_cons (ev_t rfl (by (conv => lhs; whnf) <;> rfl)) evl_nil)) (fun σ hz => c38 t vm vp tv ok.toOkBody _ hto σ) ?_
        refine DE_pureW (.cons_cons _ (.cons_cons _ (.cons_cons _ (.cons_cons _ (.cons _ (.cons _ (.cons _ (.cons_cons _ .slnil)))))))) (want_yes rfl rfl rfl rfl rfl) rfl (po_bin (ev_t rfl (by (conv => lhs; whnf) <;> rfl)) (ev_t rfl (by (conv => lhs; whnf) <;> rfl)) (by (conv => lhs; whnf) <;> rfl)) ?_
        refine DE_pureW (.cons_cons _ (.cons_cons _ (.cons_cons _ (.cons_cons _ (.cons _ (.cons _ (.cons _ (.cons_cons _ .slnil)))))))) (want_none rfl) rfl (po_pickF (ev_t rfl (by (conv => lhs; whnf) <;> rfl)) (ev_t rfl (by (conv => lhs; whnf) <;> rfl))) ?_
        refine DE_eff0 (.cons_cons _ (.cons_cons _ (.cons_cons _ (.cons_cons _ (.cons _ (.cons _ (.cons _ (.cons_cons _ .slnil)))))))) (want_none rfl) rfl rfl (eff_store (i := 6) (ev_t rfl (by (conv => lhs; whnf) <;> rfl)) (ev_t rfl (by (conv => lhs; whnf) <;> rfl)) rfl (by first | exact vcells_gr | exact vcells_rd | exact (SlOf.cells (by assumption)).1 | ((conv => lhs; whnf) <;> rfl)) T3 rfl rfl (by first | rfl | (simp only [List.all_cons, List.all_nil, vcells, tv.cm, tv.cp]; rfl) | (simp; done) | (simp [cellOK]; done)) (by simp only [wr]; exact rfl) (by simp only [zset]; exact rfl)) fun _ h_ => ?_
        refine DE_eff0 (.cons_cons _ (.cons_cons _ (.cons_cons _ (.cons_cons _ (.cons _ (.cons _ (.cons _ (.cons_cons _ .slnil)))))))) (want_none rfl) rfl rfl (eff_store (i := 5) (ev_t rfl (by (conv => lhs; whnf) <;> rfl)) (ev_t rfl (by (conv => lhs; whnf) <;> rfl)) rfl (by first | exact vcells_gr | exact vcells_rd | exact (SlOf.cells (by assumption)).1 | ((conv => lhs; whnf) <;> rfl)) T4 rfl rfl (by first | rfl | (simp only [List.all_cons, List.all_nil, vcells, tv.cm, tv.cp]; rfl) | (simp; done) | (simp [cellOK]; done)) (by simp only [wr]; exact rfl) (by simp only [zset]; exact rfl)) fun _ h_ => ?_
        refine DE_eff0 (.cons_cons _ (.cons_cons _ (.cons_cons _ (.cons_cons _ (.cons _ (.cons _ (.cons _ (.cons_cons _ .slnil)))))))) (want_none rfl) rfl rfl (eff_store (i := 4) (ev_t rfl (by (conv => lhs; whnf) <;> rfl)) rfl rfl (by first | exact vcells_gr | exact vcells_rd | exact (SlOf.cells (by assumption)).1 | ((conv => lhs; whnf) <;> rfl)) T34 rfl rfl (by first | rfl | (simp only [List.all_cons, List.all_nil, vcells, tv.cm, tv.cp]; rfl) | (simp; done) | (simp [cellOK]; done)) (by simp only [wr]; exact rfl) (by simp only [zset]; exact rfl)) fun _ h_ => ?_
        refine DE_nil (.cons_cons _ (.cons_cons _ (.cons_cons _ (.cons_cons _ (.cons _ (.cons _ (.cons _ (.cons_cons _ .slnil)))))))) ?_
        refine W_less (.cons _ (.cons_cons _ (.cons_cons _ (.cons_cons _ (.cons_cons _ (.cons_cons _ (.cons_cons _ (.cons_cons _ .slnil)))))))) ?_
        exact endsB_ret ((legAt t order i).number, full t (legAt t order i) || decide ((legAt t order i).comes.1 > untilF t (legAt t order i).to), 0) rfl (by clear hbef; simp_all [zsets, zset, full, legAt] <;> omega) ⟨fun h => (by cases h), fun _ => ⟨rfl, by unfold faultF; rw [find_first hl0 (by clear hbef; simp_all [faulty, full, legAt]) hbef]⟩⟩
    · (try simp only [decide_eq_true_eq, decide_eq_false_iff_not, beq_iff_eq, beq_eq_false_iff_ne, bne_iff_ne, ne_eq, bne_eq_false_iff_eq, Bool.not_eq_true', Bool.not_eq_false', Bool.not_eq_true, Bool.not_eq_false, Bool.not_false, Bool.not_true, not_lt, not_le, Int.not_lt, Int.not_le, Decidable.not_not] at g1); (try simp at g1)
      refine DE_pureW (.cons_cons _ (.cons_cons _ (.cons_cons _ (.cons_cons _ (.cons_cons _ (.cons_cons _ (.cons_cons _ (.cons_cons _ .slnil)))))))) (want_yes rfl rfl rfl rfl rfl) rfl (po_fieldAddr (ev_t rfl (by (conv => lhs; whnf) <;> rfl)) F125_5 T33 (by (conv => lhs; whnf) <;> rfl)) ?_
      refine DE_pureW (.cons_cons _ (.cons_cons _ (.cons_cons _ (.cons_cons _ (.cons_cons _ (.cons_cons _ (.cons_cons _ (.cons_cons _ .slnil)))))))) (want_yes rfl rfl rfl rfl rfl) rfl (po_fieldAddr (ev_t rfl (by (conv => lhs; whnf) <;> rfl)) F33_1 T3 (by (conv => lhs; whnf) <;> rfl)) ?_
      refine DE_pureW (.cons_cons _ (.cons_cons _ (.cons_cons _ (.cons_cons _ (.cons_cons _ (.cons_cons _ (.cons_cons _ (.cons_cons _ .slnil)))))))) (want_yes rfl rfl rfl rfl rfl) rfl (po_load (i := 0) (ev_t rfl (by (conv => lhs; whnf) <;> rfl)) K3 A3 rfl rfl) ?_
      refine DE_pureW (.cons_cons _ (.cons_cons _ (.cons_cons _ (.cons_cons _ (.cons_cons _ (.cons_cons _ (.cons_cons _ (.cons_cons _ .slnil)))))))) (want_yes rfl rfl rfl rfl rfl) rfl (po_loadA (i := 3) (ev_t rfl (by (conv => lhs; whnf) <;> rfl)) K119 A119 T119 rfl rfl (by simp only [sub]; exact rfl)) ?_
      refine DE_pureW (.cons_cons _ (.cons_cons _ (.cons_cons _ (.cons_cons _ (.cons_cons _ (.cons_cons _ (.cons_cons _ (.cons_cons _ .slnil)))))))) (want_yes rfl rfl rfl rfl rfl) rfl (po_fieldAddr (ev_t rfl (by (conv => lhs; whnf) <;> rfl)) F125_2 T3 (by (conv => lhs; whnf) <;> rfl)) ?_
      refine DE_pureW (.cons_cons _ (.cons_cons _ (.cons_cons _ (.cons_cons _ (.cons_cons _ (.cons_cons _ (.cons_cons _ (.cons_cons _ .slnil)))))))) (want_yes rfl rfl rfl rfl rfl) rfl (po_load (i := 0) (ev_t rfl (by (conv => lhs; whnf) <;> rfl)) K3 A3 rfl rfl) ?_
      refine DE_callW (.cons_cons _ (.cons_cons _ (.cons_cons _ (.cons_cons _ (.cons_cons _ (.cons_cons _ (.cons_cons _ (.cons_cons _ .slnil)))))))) (want_yes rfl rfl rfl rfl rfl) rfl rfl rfl rfl (evl_cons (ev_t rfl (by (conv => lhs; whnf) <;> rfl)) (evl_cons (ev_t rfl (by (conv => lhs; whnf) <;> rfl)) evl_nil)) (fun σ hz => c38 t vm vp tv ok.toOkBody _ hto σ) ?_
      refine DE_pureW (.cons_cons _ (.cons_cons _ (.cons_cons _ (.cons_cons _ (.cons_cons _ (.cons_cons _ (.cons_cons _ (.cons_cons _ .slnil)))))))) (want_yes rfl rfl rfl rfl rfl) rfl (po_bin (ev_t rfl (by (conv => lhs; whnf) <;> rfl)) (ev_t rfl (by (conv => lhs; whnf) <;> rfl)) (by (conv => lhs; whnf) <;> rfl)) ?_
      refine DE_pureW (.cons_cons _ (.cons_cons _ (.cons_cons _ (.cons_cons _ (.cons_cons _ (.cons_cons _ (.cons_cons _ (.cons_cons _ .slnil)))))))) (want_none rfl) rfl (po_pickF (ev_t rfl (by (conv => lhs; whnf) <;> rfl)) (ev_t rfl (by (conv => lhs; whnf) <;> rfl))) ?_
      refine DE_nil (.cons_cons _ (.cons_cons _ (.cons_cons _ (.cons_cons _ (.cons_cons _ (.cons_cons _ (.cons_cons _ (.cons_cons _ .slnil)))))))) ?_
      refine W_if (ev_t rfl (by (conv => lhs; whnf) <;> rfl)) (fun g2 => ?_) (fun g2 => ?_)
      · (try simp only [decide_eq_true_eq, decide_eq_false_iff_not, beq_iff_eq, beq_eq_false_iff_ne, bne_iff_ne, ne_eq, bne_eq_false_iff_eq, Bool.not_eq_true', Bool.not_eq_false', Bool.not_eq_true, Bool.not_eq_false, Bool.not_false, Bool.not_true, not_lt, not_le, Int.not_lt, Int.not_le, Decidable.not_not] at g2); (try simp at g2)
        refine W_seq ?_
        refine W_drawI (cs := [13, 14, 15]) (gl := [0, 1, 2, 3, 4, 5, 6, 7, 8, 9, 10, 11, 13, 12, 14, 15]) [5, 4, 6] (by simp only [zdrop, List.any_cons, List.any_nil, Nat.beq, Bool.or_false, cond_true, cond_false]; exact rfl) rfl rfl ?_
        refine DE_pureW (.cons_cons _ (.cons_cons _ (.cons_cons _ (.cons_cons _ (.cons _ (.cons _ (.cons _ (.cons_cons _ .slnil)))))))) (want_none rfl) rfl (po_fieldAddr (ev_t rfl (by (conv => lhs; whnf) <;> rfl)) F125_0 T3 (by (conv => lhs; whnf) <;> rfl)) ?_
        refine DE_pureW (.cons_cons _ (.cons_cons _ (.cons_cons _ (.cons_cons _ (.cons _ (.cons _ (.cons _ (.cons_cons _ .slnil)))))))) (want_none rfl) rfl (po_load (i := 0) (ev_t rfl (by (conv => lhs; whnf) <;> rfl)) K3 A3 rfl rfl) ?_
        refine DE_pureW (.cons_cons _ (.cons_cons _ (.cons_cons _ (.cons_cons _ (.cons _ (.cons _ (.cons _ (.cons_cons _ .slnil)))))))) (want_none rfl) rfl (po_move (ev_t rfl (by (conv => lhs; whnf) <;> rfl))) ?_
        refine DE_pureW (.cons_cons _ (.cons_cons _ (.cons_cons _ (.cons_cons _ (.cons _ (.cons _ (.cons _ (.cons_cons _ .slnil)))))))) (want_none rfl) rfl (po_move (ev_t rfl (by (conv => lhs; whnf) <;> rfl))) ?_
        refine DE_split (t := 43) (by (conv => lhs; whnf) <;> rfl) (fun g4 => ?_) (fun g4 => ?_)
        · (try simp only [decide_eq_true_eq, decide_eq_false_iff_not, beq_iff_eq, beq_eq_false_iff_ne, bne_iff_ne, ne_eq, bne_eq_false_iff_eq, Bool.not_eq_true', Bool.not_eq_false', Bool.not_eq_true, Bool.not_eq_false, Bool.not_false, Bool.not_true, not_lt, not_le, Int.not_lt, Int.not_le, Decidable.not_not] at g4); (try simp at g4)
          refine DE_idleW (.cons_cons _ (.cons_cons _ (.cons_cons _ (.cons_cons _ (.cons _ (.cons _ (.cons _ (.cons_cons _ .slnil)))))))) (want_no rfl rfl rfl rfl rfl) rfl ?_
          refine DE_idleW (.cons_cons _ (.cons_cons _ (.cons_cons _ (.cons_cons _ (.cons _ (.cons _ (.cons _ (.cons_cons _ .slnil)))))))) (want_no rfl rfl rfl rfl rfl) rfl ?_
          refine DE_idleW (.cons_cons _ (.cons_cons _ (.cons_cons _ (.cons_cons _ (.cons _ (.cons _ (.cons _ (.cons_cons _ .slnil)))))))) (want_no rfl rfl rfl rfl rfl) rfl ?_
          refine DE_idleW (.cons_cons _ (.cons_cons _ (.cons_cons _ (.cons_cons _ (.cons _ (.cons _ (.cons _ (.cons_cons _ .slnil)))))))) (want_no rfl rfl rfl rfl rfl) rfl ?_
          refine DE_idleW (.cons_cons _ (.cons_cons _ (.cons_cons _ (.cons_cons _ (.cons _ (.cons _ (.cons _ (.cons_cons _ .slnil)))))))) (want_no rfl rfl rfl rfl rfl) rfl ?_
          refine DE_idleW (.cons_cons _ (.cons_cons _ (.cons_cons _ (.cons_cons _ (.cons _ (.cons _ (.cons _ (.cons_cons _ .slnil)))))))) (want_no rfl rfl rfl rfl rfl) rfl ?_
          refine DE_idleW (.cons_cons _ (.cons_cons _ (.cons_cons _ (.cons_cons _ (.cons _ (.cons _ (.cons _ (.cons_cons _ .slnil)))))))) (want_no rfl rfl rfl rfl rfl) rfl ?_
          refine DE_idleW (.cons_cons _ (.cons_cons _ (.cons_cons _ (.cons_cons _ (.cons _ (.cons _ (.cons _ (.cons_cons _ .slnil)))))))) (want_no rfl rfl rfl rfl rfl) rfl ?_
          refine DE_pureW (.cons_cons _ (.cons_cons _ (.cons_cons _ (.cons_cons _ (.cons _ (.cons _ (.cons _ (.cons_cons _ .slnil)))))))) (want_none rfl) rfl (po_pickT (ev_t rfl (by (conv => lhs; whnf) <;> rfl)) rfl) ?_
          refine DE_eff0 (.cons_cons _ (.cons_cons _ (.cons_cons _ (.cons_cons _ (.cons _ (.cons _ (.cons _ (.cons_cons _ .slnil)))))))) (want_none rfl) rfl rfl (eff_store (i := 6) (ev_t rfl (by (conv => lhs; whnf) <;> rfl)) (ev_t rfl (by (conv => lhs; whnf) <;> rfl)) rfl (by first | exact vcells_gr | exact vcells_rd | exact (SlOf.cells (by assumption)).1 | ((conv => lhs; whnf) <;> rfl)) T3 rfl rfl (by first | rfl | (simp only [List.all_cons, List.all_nil, vcells, tv.cm, tv.cp]; rfl) | (simp; done) | (simp [cellOK]; done)) (by simp only [wr]; exact rfl) (by simp only [zset]; exact rfl)) fun _ h_ => ?_
          refine DE_eff0 (.cons_cons _ (.cons_cons _ (.cons_cons _ (.cons_cons _ (.cons _ (.cons _ (.cons _ (.cons_cons _ .slnil)))))))) (want_none rfl) rfl rfl (eff_store (i := 5) (ev_t rfl (by (conv => lhs; whnf) <;> rfl)) (ev_t rfl (by (conv => lhs; whnf) <;> rfl)) rfl (by first | exact vcells_gr | exact vcells_rd | exact (SlOf.cells (by assumption)).1 | ((conv => lhs; whnf) <;> rfl)) T4 rfl rfl (by first | rfl | (simp only [List.all_cons, List.all_nil, vcells, tv.cm, tv.cp]; rfl) | (simp; done) | (simp [cellOK]; done)) (by simp only [wr]; exact rfl) (by simp only [zset]; exact rfl)) fun _ h_ => ?_
          refine DE_eff0 (.cons_cons _ (.cons_cons _ (.cons_cons _ (.cons_cons _ (.cons _ (.cons _ (.cons _ (.cons_cons _ .slnil)))))))) (want_none rfl) rfl rfl (eff_store (i := 4) (ev_t rfl (by (conv => lhs; whnf) <;> rfl)) rfl rfl (by first | exact vcells_gr | exact vcells_rd | exact (SlOf.cells (by assumption)).1 | ((conv => lhs; whnf) <;> rfl)) T34 rfl rfl (by first | rfl | (simp only [List.all_cons, List.all_nil, vcells, tv.cm, tv.cp]; rfl) | (simp; done) | (simp [cellOK]; done)) (by simp only [wr]; exact rfl) (by simp only [zset]; exact rfl)) fun _ h_ => ?_
          refine DE_nil (.cons_cons _ (.cons_cons _ (.cons_cons _ (.cons_cons _ (.cons _ (.cons _ (.cons _ (.cons_cons _ .slnil)))))))) ?_
          refine W_less (.cons _ (.cons_cons _ (.cons_cons _ (.cons_cons _ (.cons_cons _ (.cons_cons _ (.cons_cons _ (.cons_cons _ .slnil)))))))) ?_
          exact endsB_ret ((legAt t order i).number, full t (legAt t order i) || decide ((legAt t order i).comes.1 > untilF t (legAt t order i).to), 0) rfl (by clear hbef; simp_all [zsets, zset, full, legAt] <;> omega) ⟨fun h => (by cases h), fun _ => ⟨rfl, by unfold faultF; rw [find_first hl0 (by clear hbef; simp_all [faulty, full, legAt]) hbef]⟩⟩
        · (try simp only [decide_eq_true_eq, decide_eq_false_iff_not, beq_iff_eq, beq_eq_false_iff_ne, bne_iff_ne, ne_eq, bne_eq_false_iff_eq, Bool.not_eq_true', Bool.not_eq_false', Bool.not_eq_true, Bool.not_eq_false, Bool.not_false, Bool.not_true, not_lt, not_le, Int.not_lt, Int.not_le, Decidable.not_not] at g4); (try simp at g4)
          refine DE_pureW (.cons_cons _ (.cons_cons _ (.cons_cons _ (.cons_cons _ (.cons _ (.cons _ (.cons _ (.cons_cons _ .slnil)))))))) (want_yes rfl rfl rfl rfl rfl) rfl (po_fieldAddr (ev_t rfl (by (conv => lhs; whnf) <;> rfl)) F125_5 T33 (by (conv => lhs; whnf) <;> rfl)) ?_
          refine DE_pureW (.cons_cons _ (.cons_cons _ (.cons_cons _ (.cons_cons _ (.cons _ (.cons _ (.cons _ (.cons_cons _ .slnil)))))))) (want_yes rfl rfl rfl rfl rfl) rfl (po_fieldAddr (ev_t rfl (by (conv => lhs; whnf) <;> rfl)) F33_0 T3 (by (conv => lhs; whnf) <;> rfl)) ?_
          refine DE_pureW (.cons_cons _ (.cons_cons _ (.cons_cons _ (.cons_cons _ (.cons _ (.cons _ (.cons _ (.cons_cons _ .slnil)))))))) (want_yes rfl rfl rfl rfl rfl) rfl (po_load (i := 0) (ev_t rfl (by (conv => lhs; whnf) <;> rfl)) K3 A3 rfl rfl) ?_
          refine DE_pureW (.cons_cons _ (.cons_cons _ (.cons_cons _ (.cons_cons _ (.cons _ (.cons _ (.cons _ (.cons_cons _ .slnil)))))))) (want_yes rfl rfl rfl rfl rfl) rfl (po_loadA (i := 3) (ev_t rfl (by (conv => lhs; whnf) <;> rfl)) K119 A119 T119 rfl rfl (by simp only [sub]; exact rfl)) ?_
          refine DE_pureW (.cons_cons _ (.cons_cons _ (.cons_cons _ (.cons_cons _ (.cons _ (.cons _ (.cons _ (.cons_cons _ .slnil)))))))) (want_yes rfl rfl rfl rfl rfl) rfl (po_fieldAddr (ev_t rfl (by (conv => lhs; whnf) <;> rfl)) F125_2 T3 (by (conv => lhs; whnf) <;> rfl)) ?_
          refine DE_pureW (.cons_cons _ (.cons_cons _ (.cons_cons _ (.cons_cons _ (.cons _ (.cons _ (.cons _ (.cons_cons _ .slnil)))))))) (want_yes rfl rfl rfl rfl rfl) rfl (po_load (i := 0) (ev_t rfl (by (conv => lhs; whnf) <;> rfl)) K3 A3 rfl rfl) ?_
          refine DE_callW (.cons_cons _ (.cons_cons _ (.cons_cons _ (.cons_cons _ (.cons _ (.cons _ (.cons _ (.cons_cons _ .slnil)))))))) (want_yes rfl rfl rfl rfl rfl) rfl rfl rfl rfl (evl_cons (ev_t rfl (by (conv => lhs; whnf) <;> rfl)) (evl_cons (ev_t rfl (by (conv => lhs; whnf) <;> rfl)) evl_nil)) (fun σ hz => c38 t vm vp tv ok.toOkBody _ hto σ) ?_
          refine DE_pureW (.cons_cons _ (.cons_cons _ (.cons_cons _ (.cons_cons _ (.cons _ (.cons _ (.cons _ (.cons_cons _ .slnil)))))))) (want_yes rfl rfl rfl rfl rfl) rfl (po_bin (ev_t rfl (by (conv => lhs; whnf) <;> rfl)) (ev_t rfl (by (conv => lhs; whnf) <;> rfl)) (by (conv => lhs; whnf) <;> rfl)) ?_
          refine DE_pureW (.cons_cons _ (.cons_cons _ (.cons_cons _ (.cons_cons _ (.cons _ (.cons _ (.cons _ (.cons_cons _ .slnil)))))))) (want_none rfl) rfl (po_pickF (ev_t rfl (by (conv => lhs; whnf) <;> rfl)) (ev_t rfl (by (conv => lhs; whnf) <;> rfl))) ?_
          refine DE_eff0 (.cons_cons _ (.cons_cons _ (.cons_cons _ (.cons_cons _ (.cons _ (.cons _ (.cons _ (.cons_cons _ .slnil)))))))) (want_none rfl) rfl rfl (eff_store (i := 6) (ev_t rfl (by (conv => lhs; whnf) <;> rfl)) (ev_t rfl (by (conv => lhs; whnf) <;> rfl)) rfl (by first | exact vcells_gr | exact vcells_rd | exact (SlOf.cells (by assumption)).1 | ((conv => lhs; whnf) <;> rfl)) T3 rfl rfl (by first | rfl | (simp only [List.all_cons, List.all_nil, vcells, tv.cm, tv.cp]; rfl) | (simp; done) | (simp [cellOK]; done)) (by simp only [wr]; exact rfl) (by simp only [zset]; exact rfl)) fun _ h_ => ?_
          refine DE_eff0 (.cons_cons _ (.cons_cons _ (.cons_cons _ (.cons_cons _ (.cons _ (.cons _ (.cons _ (.cons_cons _ .slnil)))))))) (want_none rfl) rfl rfl (eff_store (i := 5) (ev_t rfl (by (conv => lhs; whnf) <;> rfl)) (ev_t rfl (by (conv => lhs; whnf) <;> rfl)) rfl (by first | exact vcells_gr | exact vcells_rd | exact (SlOf.cells (by assumption)).1 | ((conv => lhs; whnf) <;> rfl)) T4 rfl rfl (by first | rfl | (simp only [List.all_cons, List.all_nil, vcells, tv.cm, tv.cp]; rfl) | (simp; done) | (simp [cellOK]; done)) (by simp only [wr]; exact rfl) (by simp only [zset]; exact rfl)) fun _ h_ => ?_
          refine DE_eff0 (.cons_cons _ (.cons_cons _ (.cons_cons _ (.cons_cons _ (.cons _ (.cons _ (.cons _ (.cons_cons _ .slnil)))))))) (want_none rfl) rfl rfl (eff_store (i := 4) (ev_t rfl (by (conv => lhs; whnf) <;> rfl)) rfl rfl (by first | exact vcells_gr | exact vcells_rd | exact (SlOf.cells (by assumption)).1 | ((conv => lhs; whnf) <;> rfl)) T34 rfl rfl (by first | rfl | (simp only [List.all_cons, List.all_nil, vcells, tv.cm, tv.cp]; rfl) | (simp; done) | (simp [cellOK]; done)) (by simp only [wr]; exact rfl) (by simp only [zset]; exact rfl)) fun _ h_ => ?_
          refine DE_nil (.cons_cons _ (.cons_cons _ (.cons_cons _ (.cons_cons _ (.cons _ (.cons _ (.cons _ (.cons_cons _ .slnil)))))))) ?_
          refine W_less (.cons _ (.cons_cons _ (.cons_cons _ (.cons_cons _ (.cons_cons _ (.cons_cons _ (.cons_cons _ (.cons_cons _ .slnil)))))))) ?_
          exact endsB_ret ((legAt t order i).number, full t (legAt t order i) || decide ((legAt t order i).comes.1 > untilF t (legAt t order i).to), 0) rfl (by clear hbef; simp_all [zsets, zset, full, legAt] <;> omega) ⟨fun h => (by cases h), fun _ => ⟨rfl, by unfold faultF; rw [find_first hl0 (by clear hbef; simp_all [faulty, full, legAt]) hbef]⟩⟩
      · (try simp only [decide_eq_true_eq, decide_eq_false_iff_not, beq_iff_eq, beq_eq_false_iff_ne, bne_iff_ne, ne_eq, bne_eq_false_iff_eq, Bool.not_eq_true', Bool.not_eq_false', Bool.not_eq_true, Bool.not_eq_false, Bool.not_false, Bool.not_true, not_lt, not_le, Int.not_lt, Int.not_le, Decidable.not_not] at g2); (try simp at g2)
        refine W_skip ?_
        refine W_inB ?_
        refine W_less (.cons _ (.cons_cons _ (.cons_cons _ (.cons_cons _ (.cons_cons _ (.cons_cons _ (.cons_cons _ (.cons_cons _ .slnil)))))))) ?_
        exact endsB_of (0, false, 0) rfl (by simp [zsets, zset]) ⟨fun _ => ⟨⟨rfl, rfl, rfl⟩, take_step hl0 (by clear hbef; simp_all [faulty, full, legAt]) hbef⟩, fun h => absurd rfl h⟩
  · rintro ⟨a, b, c⟩ hI0
    obtain ⟨⟨rfl, rfl, rfl⟩, hbef⟩ := hI0
    rw [List.length_map, List.take_length] at hbef
    have hres : faultF t order = (0, false, 7) := by unfold faultF; rw [find_not hbef]
    refine W_eqZ (by simp only [zsets, zset]; exact rfl) ?_
    refine W_inB ?_
    refine W_seq ?_
    refine W_region rfl ?_
    refine W_store (i := 5) rfl rfl rfl (ev_t rfl (by (conv => lhs; whnf) <;> rfl)) rfl rfl (by first | exact vcells_gr | exact vcells_rd | exact (SlOf.cells (by assumption)).1 | ((conv => lhs; whnf) <;> rfl)) T3 rfl rfl (by first | rfl | (simp only [List.all_cons, List.all_nil, vcells, tv.cm, tv.cp]; rfl) | (simp; done) | (simp [cellOK]; done)) (by simp only [wr]; exact rfl) (by simp only [zset]; exact rfl) ?_
    refine W_store (i := 4) rfl rfl rfl (ev_t rfl (by (conv => lhs; whnf) <;> rfl)) rfl rfl (by first | exact vcells_gr | exact vcells_rd | exact (SlOf.cells (by assumption)).1 | ((conv => lhs; whnf) <;> rfl)) T4 rfl rfl (by first | rfl | (simp only [List.all_cons, List.all_nil, vcells, tv.cm, tv.cp]; rfl) | (simp; done) | (simp [cellOK]; done)) (by simp only [wr]; exact rfl) (by simp only [zset]; exact rfl) ?_
    refine W_store (i := 3) rfl rfl rfl (ev_t rfl (by (conv => lhs; whnf) <;> rfl)) rfl rfl (by first | exact vcells_gr | exact vcells_rd | exact (SlOf.cells (by assumption)).1 | ((conv => lhs; whnf) <;> rfl)) T34 rfl rfl (by first | rfl | (simp only [List.all_cons, List.all_nil, vcells, tv.cm, tv.cp]; rfl) | (simp; done) | (simp [cellOK]; done)) (by simp only [wr]; exact rfl) (by simp only [zset]; exact rfl) ?_
    refine W_done ?_
    exact W_ret fun fr σ' hf hz => ends_of (.inr rfl) hf hz rfl (show resOf _ _ _ _ _ from ⟨_, _, rfl, po_load (i := 5) (ev_t rfl (by (conv => lhs; whnf) <;> rfl)) K3 A3 rfl rfl, ⟨_, _, rfl, po_load (i := 4) (ev_t rfl (by (conv => lhs; whnf) <;> rfl)) K4 A4 rfl rfl, ⟨_, _, rfl, po_load (i := 3) (ev_t rfl (by (conv => lhs; whnf) <;> rfl)) K34 A34 rfl rfl, rfl⟩⟩⟩) rfl fun τ hz2 => by clear hf hz; first | (rw [← hres]; simp [packV, Ev.freeze, Ev.freeze.frL]; done) | (rw [hres]; simp [packV, Ev.freeze, Ev.freeze.frL]; done)
  · rintro i e ⟨a, b, c⟩ c hi hJ0 hc
    obtain ⟨rfl, hres⟩ := hJ0
    cases hc
    refine W_eqZ (by simp only [zsets, zset]; exact rfl) ?_
    exact W_ret fun fr σ' hf hz => ends_of (.inr rfl) hf hz rfl (show resOf _ _ _ _ _ from ⟨_, _, rfl, po_load (i := 5) (ev_t rfl (by (conv => lhs; whnf) <;> rfl)) K3 A3 rfl rfl, ⟨_, _, rfl, po_load (i := 4) (ev_t rfl (by (conv => lhs; whnf) <;> rfl)) K4 A4 rfl rfl, ⟨_, _, rfl, po_load (i := 3) (ev_t rfl (by (conv => lhs; whnf) <;> rfl)) K34 A34 rfl rfl, rfl⟩⟩⟩) rfl fun τ hz2 => by clear hf hz; first | (rw [← hres]; simp [packV, Ev.freeze, Ev.freeze.frL]; done) | (rw [hres]; simp [packV, Ev.freeze, Ev.freeze.frL]; done)

end Go.Proofs

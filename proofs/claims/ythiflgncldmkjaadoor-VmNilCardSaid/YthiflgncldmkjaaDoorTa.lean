/- A whole world as an abstract heap that nobody writes; the two tables in it. -/
import Derived.Test.YthiflgncldmkjaaDoorRr
import Derived.Test.YthiflgncldmkjaaDoorRows
import Derived.Test.YthiflgncldmkjaaDoorTie
import Derived.Test.YthiflgncldmkjaaDoorCards
import Derived.Below
import Derived.ChangeSame
import Derived.WalkKit
import Derived.ProofKit
import Derived.OpenShut
import Derived.Deep.DeepHandedRow
import Derived.Lib.LaidTab
set_option linter.unusedVariables false
set_option linter.unusedSimpArgs false
namespace Go.Ri

/-- A cell as an abstract value; `n`: how many blocks there are. -/
def wV (n : Nat) (v : Value) : Option AV := match v with
  | .bool b => some (.bool b)
  | .int k m => some (.int k m)
  | .string s => some (.str s)
  | .pointer none => some (.ptr none)
  | .pointer (some ⟨b, o, none⟩) => if b < n then some (.ptr (some (b, o))) else none
  | .slice none l c => if l ≤ c then some (.slice none l (.kn c)) else none
  | .slice (some ⟨b, o, none⟩) l c => if b < n ∧ l ≤ c then some (.slice (some (b, o)) l (.kn c)) else none
  | v => if v.oneCell' = true then some (.other v) else none
def wL (n : Nat) : List Value → Option (List AV)
  | [] => some []
  | v :: vs => (wV n v).bind fun c => (wL n vs).map fun cs => c :: cs
def absH (w : World) : AH := ⟨fun b => match w.heap[b]? with
  | some (.cells cs e fr) => (wL w.heap.size cs.toList).map fun l => ⟨l, e, false⟩
  | _ => none, w.heap.size⟩
def absRo (w : World) : Ro := fun b => if b < w.heap.size then some ⟨b, 0, match w.heap[b]? with
  | some (.cells cs _ _) => cs.size
  | _ => 0⟩ else none

theorem absRo_some {w : World} {b : Nat} (h : b < w.heap.size) : ∃ l, absRo w b = some ⟨b, 0, l⟩ := ⟨_, if_pos h⟩
theorem wV_rel {w : World} {v : Value} {c : AV} (h : wV w.heap.size v = some c) : rel (absRo w) c v ∧ c.isOne = true := by
  unfold wV at h
  split at h
  · cases h; exact ⟨rfl, rfl⟩
  · cases h; exact ⟨rfl, rfl⟩
  · cases h; exact ⟨rfl, rfl⟩
  · cases h; exact ⟨⟨none, rfl, rfl⟩, rfl⟩
  · split at h
    · rename_i b o hb
      cases h
      obtain ⟨l, hl⟩ := absRo_some hb
      exact ⟨⟨some ⟨b, 0 + o, none⟩, by simp [cAddr, hl], by simp⟩, rfl⟩
    · cases h
  · split at h
    · cases h; rename_i hlc; exact ⟨⟨none, _, rfl, rfl, hlc, rfl⟩, rfl⟩
    · cases h
  · split at h
    · rename_i b o l c hb
      cases h
      obtain ⟨l', hl⟩ := absRo_some hb.1
      exact ⟨⟨some ⟨b, 0 + o, none⟩, c, by simp [cAddr, hl], rfl, hb.2, by simp⟩, rfl⟩
    · cases h
  · split at h
    · rename_i hv; cases h; exact ⟨rfl, hv⟩
    · cases h
theorem wL_rel {w : World} : ∀ {vs : List Value} {cs : List AV}, wL w.heap.size vs = some cs → relL (absRo w) cs vs ∧ cs.all AV.isOne = true
  | [], cs, h => by cases h; exact ⟨relL_nil _, rfl⟩
  | v :: vs, cs, h => by
    simp only [wL, Option.bind_eq_some_iff, Option.map_eq_some_iff] at h
    obtain ⟨c, hc, ds, hds, rfl⟩ := h
    obtain ⟨h1, h2⟩ := wV_rel hc
    obtain ⟨h3, h4⟩ := wL_rel hds
    exact ⟨relL_cons h1 h3, by simp [h2, h4]⟩
theorem wL_get {n : Nat} : ∀ {vs : List Value} {cs : List AV}, wL n vs = some cs → ∀ i : Nat, cs[i]? = (vs[i]?).bind (wV n)
  | [], cs, h, i => by cases h; simp
  | v :: vs, cs, h, i => by
    simp only [wL, Option.bind_eq_some_iff, Option.map_eq_some_iff] at h
    obtain ⟨c, hc, ds, hds, rfl⟩ := h
    cases i with
    | zero => simp [hc]
    | succ i => simpa using wL_get hds i

theorem absH_sim (P : Program) {w : World} (hg : P.globals.size ≤ w.heap.size) : Sim P (absRo w) (absH w) w := by
  refine ⟨fun b B hB => ?_, fun b b' B B' r r' hB hB' hr hr' he => ?_, fun b hb => if_neg (by simp only [absH] at hb; omega), fun g hgl => ?_⟩
  · simp only [absH] at hB
    split at hB
    · rename_i cs e fr hcs
      simp only [Option.map_eq_some_iff] at hB
      obtain ⟨l, hl, rfl⟩ := hB
      have hlt : b < w.heap.size := (Array.getElem?_eq_some_iff.1 hcs).1
      obtain ⟨h1, h2⟩ := wL_rel hl
      refine ⟨⟨b, 0, cs.size⟩, cs, fr, cs.toList, ?_, hcs, by simp, fun h => by simp at h, h1, by simp, fun i v hi => by simpa using hi, h2⟩
      simp only [absRo, if_pos hlt, hcs]
    · cases hB
  · unfold absRo at hr hr'
    split at hr
    · split at hr'
      · cases hr; cases hr'; exact he
      · cases hr'
    · cases hr
  · obtain ⟨l, hl⟩ := absRo_some (w := w) (b := g) (by omega)
    exact ⟨l, hl⟩
theorem absH_wf (w : World) : (absH w).wf := by
  intro b B hB
  simp only [absH] at hB ⊢
  split at hB
  · rename_i cs e fr hcs
    exact (Array.getElem?_eq_some_iff.1 hcs).1
  · cases hB

open Go.RowKit in
/-- What a call that was run on the abstract heap says of the world. -/
theorem below_of_run {P : Program} {call : CallF} (hcall : CallOk P call) {f : FuncId} {vs : List AV} {v : AV} {H1 : AH} {W : World} {us : List Value} (hg : P.globals.size ≤ W.heap.size)
    (hrun : call f vs (absH W) = some (v, H1)) (hus : relL (absRo W) vs us) :
    Calls P f us.toArray W fun e W' => ∃ ρ' v', e = .returned v' ∧ rel ρ' v v' ∧ Below W.heap.size W W' := by
  obtain ⟨_, h⟩ := hcall f vs (absH W) v H1 hrun
  refine (h (absRo W) W us (absH_sim P hg) hus).mono ?_
  rintro e W' ⟨ρ', v', rfl, hr, hout⟩
  refine ⟨ρ', v', rfl, hr, hout.os, hout.tape, hout.output, hout.size, fun k hk => hout.keep k hk fun b B r hB hrw _ => ?_⟩
  simp only [absH] at hB
  split at hB
  · simp only [Option.map_eq_some_iff] at hB
    obtain ⟨l, _, rfl⟩ := hB
    simp at hrw
  · cases hB
end Go.Ri
namespace Go.Proofs.YthiflgncldmkjaaDoor
open Go.Ri Go.ChangeShapes Go.WideShapes Go.ChangeAt Go.RowKit

section
variable {H : Type} {enc : TypeId × Value → H} {P : Program}
theorem post_of_below {f : Func} {s : ChangeSpec} {apart fresh handsOn again : Bool} {W W' : World} {args : Array Value} {v : Value} {ds gs : List (DataW H)} {before pa pv : List MemPlace}
    (hW : DataW.Whole enc P f.params.toList s.vars apart W args.toList ds gs before)
    (hres : ∀ (b : Nat) (sp : Nat → Bool) (hd : Bool), DataW.TrodAll enc P W' b sp hd f.resultTypes.toList (v.resultList f.resultTypes.size) (s.fn H (ds ++ gs)).results [])
    (hargs : ∀ sp : Nat → Bool, (∀ p ∈ before, sp p.block = true) → DataW.TrodAll enc P W' 0 sp true f.params.toList args.toList (s.fn H (ds ++ gs)).args pa)
    (hvars : ∀ sp : Nat → Bool, (∀ p ∈ before, sp p.block = true) → DataW.TrodVars enc P W' sp s.vars (s.fn H (ds ++ gs)).vars pv)
    (hps : before = pa ++ pv) (hb : Below W.heap.size W W')
    (hok : ∀ (j : Nat) (t : TypeId) (r : Value), f.resultTypes[j]? = some t → (v.resultList f.resultTypes.size)[j]? = some r → Value.okWide P W' .any 0 t r) :
    s.post enc P f apart fresh handsOn again W args v W' := by
  have hlt : ∀ p ∈ before, p.block < W.heap.size := fun p hp => hW.lt p hp
  have hold : ∀ p ∈ before, (fun b => decide (b < W.heap.size)) p.block = true := fun p hp => by simpa using hlt p hp
  refine ⟨ds, gs, before, [], pa, pv, hW, hres _ _ _, hargs _ hold, hvars _ hold, World.keptBut_mono (fun p hp => ⟨hp, ?_⟩) (hb.frame (· ∈ before)), fun _ => ?_⟩
  · rw [hps, List.mem_append] at hp
    exact Or.inr hp
  · obtain ⟨_, _, _, _, _, hz, hn⟩ := hW
    refine ⟨hok, _, _, ([] ++ pa) ++ pv, ⟨[] ++ pa, pv, trodAll_append (hargs _ (fun _ _ => rfl)) (hres _ _ _), hvars _ (fun _ _ => rfl), rfl, ?_, ?_⟩, ?_⟩
    · intro b off hp
      have hin : MemPlace.cell b off ∈ before := by rw [hps]; simpa using hp
      rw [hb.frozen (hlt _ hin)]
      exact hz b off hin
    · intro ha
      have := hn ha
      rw [hps] at this
      simpa using this
    · intro p hp _
      rw [hps]
      simpa using hp
end

/-! ### The two tables -/
def wordsA : List AV := [.str ⟨#[]⟩, .str ⟨#[112, 117, 115, 104]⟩, .str ⟨#[108, 111, 97, 100]⟩, .str ⟨#[115, 116, 111, 114, 101]⟩, .str ⟨#[105, 110, 100, 101, 120]⟩, .str ⟨#[112, 117, 116]⟩, .str ⟨#[99, 108, 101, 97, 114]⟩, .str ⟨#[97, 100, 100]⟩, .str ⟨#[115, 117, 98]⟩, .str ⟨#[109, 117, 108]⟩, .str ⟨#[100, 105, 118]⟩, .str ⟨#[109, 111, 100]⟩, .str ⟨#[108, 101, 115, 115]⟩, .str ⟨#[109, 111, 115, 116]⟩, .str ⟨#[115, 97, 109, 101]⟩, .str ⟨#[110, 111, 116]⟩, .str ⟨#[110, 101, 103]⟩, .str ⟨#[106, 117, 109, 112]⟩, .str ⟨#[122, 101, 114, 111]⟩, .str ⟨#[99, 97, 108, 108]⟩, .str ⟨#[108, 101, 97, 118, 101]⟩, .str ⟨#[112, 114, 105, 110, 116]⟩, .str ⟨#[114, 101, 97, 100]⟩, .str ⟨#[116, 101, 115, 116]⟩, .str ⟨#[109, 97, 114, 107]⟩, .str ⟨#[100, 114, 111, 112]⟩]
def stackN : List Int := [0,0,0,1,0,1,1,0,1,1,2,0,0,0,2,1,2,1,2,1,2,1,2,1,2,1,2,1,2,1,1,1,1,1,0,0,1,0,0,0,0,0,1,0,0,1,1,0,0,0,1,0]
def stackA : List AV := stackN.map (.int .i64)
/-- The tables stand in the heap. -/
structure Tabs (H : AH) : Prop where
  words : ∃ e, H.m 0 = some ⟨wordsA, e, false⟩
  stack : ∃ e, H.m 1 = some ⟨stackA, e, false⟩
  two : 2 ≤ H.next

theorem gWords : Tryd.prog.globalNamed "parallax/code.words" = some 0 := by kernel_rfl
theorem gStack : Tryd.prog.globalNamed "parallax/code.stack" = some 1 := by kernel_rfl
theorem globals2 : Tryd.prog.globals.size = 2 := by kernel_rfl
theorem tWords : (Tryd.prog.globals[0]?).map (·.type) = some 89 := by kernel_rfl
theorem tStack : (Tryd.prog.globals[1]?).map (·.type) = some 173 := by kernel_rfl
theorem under89 : Tryd.prog.underlying 89 = some (.array 26 9) := by kernel_rfl
theorem under9 : Tryd.prog.underlying 9 = some .string := by kernel_rfl
theorem under173 : Tryd.prog.underlying 173 = some (.array 26 172) := by kernel_rfl
theorem under172 : Tryd.prog.underlying 172 = some (.array 2 3) := by kernel_rfl
theorem under3 : Tryd.prog.underlying 3 = some (.int .i64) := by kernel_rfl
theorem cells89 : Tryd.prog.cellsOf 89 = 26 := by kernel_rfl
theorem cells9 : Tryd.prog.cellsOf 9 = 1 := by kernel_rfl
theorem cells173 : Tryd.prog.cellsOf 173 = 52 := by kernel_rfl
theorem cells172 : Tryd.prog.cellsOf 172 = 2 := by kernel_rfl
theorem cells3 : Tryd.prog.cellsOf 3 = 1 := by kernel_rfl

/-- A table's cells, out of what they read as. -/
theorem cells_of_strs {W : World} {m : Nat} {cs : List Value} {ls : List (List UInt8)} {p : List MemPlace}
    (h : DataW.trod (fun _ => ()) Tryd.prog W 0 (fun _ => true) false m 89 cs = some (.agg (ls.map fun s => .lit (.string s)), p)) : cs = ls.map fun s => .string ⟨s.toArray⟩ := by
  obtain ⟨xs, m', _, hx, hl, hn, hel⟩ := DataW.trod_array under89 h
  simp only [Prod.mk.injEq, DataW.agg.injEq] at hx
  have hxl : ls.length = 26 := by have := congrArg List.length hx.1; simp at this; omega
  rw [cells89] at hl
  apply List.ext_getElem?
  intro i
  by_cases hi : i < 26
  · have h1 := hel i hi
    rw [cells9, Nat.mul_one, List.getElem?_eq_getElem (by omega)] at h1
    obtain ⟨s, hs, hxs, _⟩ := DataW.trod_string under9 h1
    have e1 : cs[i]? = some (.string s) := by
      have := congrArg (·[0]?) hs
      simpa [List.getElem?_take, List.getElem?_drop] using this
    have e2 : (xs.map (·.1))[i]? = some (DataW.lit (.string s.data.toList) : DataW Unit) := by
      rw [List.getElem?_map, List.getElem?_eq_getElem (by omega), hxs]; rfl
    rw [← hx.1, List.getElem?_map, Option.map_eq_some_iff] at e2
    obtain ⟨z, hz, hz2⟩ := e2
    simp only [DataW.lit.injEq, Lit.string.injEq] at hz2
    rw [e1, List.getElem?_map, hz, hz2]
    rfl
  · rw [List.getElem?_eq_none (by omega), List.getElem?_eq_none (by simp; omega)]
theorem cells_of_pairs {W : World} {m : Nat} {cs : List Value} {ls : List (Int × Int)} {p : List MemPlace}
    (h : DataW.trod (fun _ => ()) Tryd.prog W 0 (fun _ => true) false m 173 cs = some (.agg (ls.map fun s => .agg [.lit (.int .i64 s.1), .lit (.int .i64 s.2)]), p)) : cs = ls.flatMap fun s => [.int .i64 s.1, .int .i64 s.2] := by
  obtain ⟨xs, m', _, hx, hl, hn, hel⟩ := DataW.trod_array under173 h
  simp only [Prod.mk.injEq, DataW.agg.injEq] at hx
  have hxl : ls.length = 26 := by have := congrArg List.length hx.1; simp at this; omega
  rw [cells173] at hl
  have key : ∀ i, i < 26 → ∃ a b, ls[i]? = some (a, b) ∧ cs[i * 2]? = some (.int .i64 a) ∧ cs[i * 2 + 1]? = some (.int .i64 b) := by
    intro i hi
    have h1 := hel i hi
    rw [cells172, List.getElem?_eq_getElem (by omega)] at h1
    obtain ⟨a, b, hab⟩ : ∃ a b, ls[i]? = some (a, b) := ⟨_, _, List.getElem?_eq_getElem (by omega)⟩
    have e2 : (xs.map (·.1))[i]? = some (DataW.agg [.lit (.int .i64 a), .lit (.int .i64 b)] : DataW Unit) := by
      rw [← hx.1, List.getElem?_map, hab]; rfl
    rw [List.getElem?_map, List.getElem?_eq_getElem (by omega)] at e2
    have e3 : xs[i] = (Lib.tabData .i64 [a, b], xs[i].2) := by
      simp only [Option.map_some, Option.some.injEq] at e2
      exact Prod.ext e2 rfl
    rw [e3] at h1
    have := Lib.cells_of_tab under172 under3 cells3 cells172 h1
    refine ⟨a, b, hab, ?_, ?_⟩
    · have := congrArg (·[0]?) this
      simpa [List.getElem?_take, List.getElem?_drop] using this
    · have := congrArg (·[1]?) this
      simpa [List.getElem?_take, List.getElem?_drop] using this
  have hfl : ∀ (l : List (Int × Int)) (i : Nat), (l.flatMap fun s => [Value.int .i64 s.1, Value.int .i64 s.2])[i]? = (l[i / 2]?).map fun s => if i % 2 = 0 then Value.int .i64 s.1 else Value.int .i64 s.2 := by
    intro l
    induction l with
    | nil => intro i; simp
    | cons s l ih =>
      intro i
      match i with
      | 0 => simp
      | 1 => simp
      | i + 2 =>
        have := ih i
        rw [show (i + 2) / 2 = i / 2 + 1 by omega, show (i + 2) % 2 = i % 2 by omega]
        simpa using this
  apply List.ext_getElem?
  intro i
  rw [hfl]
  by_cases hi : i < 52
  · obtain ⟨a, b, h1, h2, h3⟩ := key (i / 2) (by omega)
    rw [h1]
    by_cases hp : i % 2 = 0
    · rw [show i / 2 * 2 = i by omega] at h2
      simp [h2, hp]
    · rw [show i / 2 * 2 + 1 = i by omega] at h3
      simp [h3, hp]
  · rw [List.getElem?_eq_none (by omega), List.getElem?_eq_none (by omega)]
    rfl

def laidTabs : List (String × DataW Unit) := [("parallax/code.words", Rows.laid_parallax_code_words), ("parallax/code.stack", Rows.laid_parallax_code_stack)]
def wordsV : List Value := [.string ⟨#[]⟩, .string ⟨#[112, 117, 115, 104]⟩, .string ⟨#[108, 111, 97, 100]⟩, .string ⟨#[115, 116, 111, 114, 101]⟩, .string ⟨#[105, 110, 100, 101, 120]⟩, .string ⟨#[112, 117, 116]⟩, .string ⟨#[99, 108, 101, 97, 114]⟩, .string ⟨#[97, 100, 100]⟩, .string ⟨#[115, 117, 98]⟩, .string ⟨#[109, 117, 108]⟩, .string ⟨#[100, 105, 118]⟩, .string ⟨#[109, 111, 100]⟩, .string ⟨#[108, 101, 115, 115]⟩, .string ⟨#[109, 111, 115, 116]⟩, .string ⟨#[115, 97, 109, 101]⟩, .string ⟨#[110, 111, 116]⟩, .string ⟨#[110, 101, 103]⟩, .string ⟨#[106, 117, 109, 112]⟩, .string ⟨#[122, 101, 114, 111]⟩, .string ⟨#[99, 97, 108, 108]⟩, .string ⟨#[108, 101, 97, 118, 101]⟩, .string ⟨#[112, 114, 105, 110, 116]⟩, .string ⟨#[114, 101, 97, 100]⟩, .string ⟨#[116, 101, 115, 116]⟩, .string ⟨#[109, 97, 114, 107]⟩, .string ⟨#[100, 114, 111, 112]⟩]
theorem wL_wordsV (n : Nat) : wL n wordsV = some wordsA := rfl
theorem wL_ints (n : Nat) : ∀ l : List Int, wL n (l.map fun z => .int .i64 z) = some (l.map (.int .i64))
  | [] => rfl
  | z :: l => by simp [wL, wV, wL_ints n l]

/-- What the rows' condition says of the abstract heap. -/
theorem tabs_of_laid {W : World} (h : laidMetH Tryd.prog laidTabs W) : Tabs (absH W) := by
  rw [MakeChecks.laidMetH_plain _ _ _ (by rfl)] at h
  obtain ⟨ps, ⟨g0, t0, cs0, f0, p0, q0, hg0, ht0, hv0, hd0, ⟨g1, t1, cs1, f1, p1, q1, hg1, ht1, hv1, hd1, _, _⟩, _⟩, _, _⟩ := h
  obtain rfl := Option.some.inj (gWords.symm.trans hg0)
  obtain rfl := Option.some.inj (gStack.symm.trans hg1)
  obtain rfl := Option.some.inj (tWords.symm.trans ht0)
  obtain rfl := Option.some.inj (tStack.symm.trans ht1)
  simp only [World.var?, hg0, Option.bind_some] at hv0
  simp only [World.var?, hg1, Option.bind_some] at hv1
  split at hv0
  · rename_i c0 e0 fr0 hc0
    split at hv1
    · rename_i c1 e1 fr1 hc1
      cases hv0
      cases hv1
      have k0 := cells_of_strs (ls := [[], [112, 117, 115, 104], [108, 111, 97, 100], [115, 116, 111, 114, 101], [105, 110, 100, 101, 120], [112, 117, 116], [99, 108, 101, 97, 114], [97, 100, 100], [115, 117, 98], [109, 117, 108], [100, 105, 118], [109, 111, 100], [108, 101, 115, 115], [109, 111, 115, 116], [115, 97, 109, 101], [110, 111, 116], [110, 101, 103], [106, 117, 109, 112], [122, 101, 114, 111], [99, 97, 108, 108], [108, 101, 97, 118, 101], [112, 114, 105, 110, 116], [114, 101, 97, 100], [116, 101, 115, 116], [109, 97, 114, 107], [100, 114, 111, 112]]) hd0
      have k1 := cells_of_pairs (ls := [(0,0),(0,1),(0,1),(1,0),(1,1),(2,0),(0,0),(2,1),(2,1),(2,1),(2,1),(2,1),(2,1),(2,1),(2,1),(1,1),(1,1),(0,0),(1,0),(0,0),(0,0),(1,0),(0,1),(1,0),(0,0),(1,0)]) hd1
      refine ⟨⟨e0, ?_⟩, ⟨e1, ?_⟩, ?_⟩
      · simp only [absH, hc0, k0]
        exact congrArg (Option.map _) (wL_wordsV _)
      · simp only [absH, hc1, k1]
        exact congrArg (Option.map _) (wL_ints _ stackN)
      · have := (Array.getElem?_eq_some_iff.1 hc1).1
        simp only [absH]
        omega
    · cases hv1
  · cases hv0
end Go.Proofs.YthiflgncldmkjaaDoor

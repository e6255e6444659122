/- The forms of methods: the row of all, the map of their places, a method's form, how many flags a form begins with. -/
import Derived.Test.YtpfnfmlibpoleaaOcts
import Derived.Test.YtpfnfmlibpoleaaLiftK
import Derived.Test.YtpfnfmlibpoleaaPrMeth
set_option linter.unusedVariables false
set_option maxRecDepth 100000
namespace Go.Proofs.Ytpfnfmlibpoleaa.Pr
open Go Go.Lift Go.Proofs

def knownL : List ((Int × Int) × Oct) := [((10, 10), [49, 49, 116, 108, 108]), ((10, 11), [116, 115, 108, 115]), ((10, 30), [50, 52, 50]), ((10, 31), [50, 52, 50]), ((10, 40), [115, 115, 102]), ((10, 41), [115]), ((10, 50), [50, 115, 50, 50]), ((10, 51), []), ((20, 10), [115]), ((20, 11), [108]), ((20, 40), [50, 115, 50, 50]), ((20, 41), []), ((40, 10), [50, 115, 115, 102, 102, 102, 102, 102, 116]), ((40, 11), []), ((40, 20), [50, 115, 102, 102]), ((40, 21), []), ((50, 10), [50, 115, 102, 102, 102, 102, 102, 116]), ((50, 11), [115, 52, 52]), ((50, 20), [50, 115, 115, 115, 102, 116]), ((50, 21), []), ((50, 30), [50, 115, 102]), ((50, 31), [52]), ((50, 40), [50, 115, 102, 102, 102]), ((50, 41), [52]), ((50, 50), [50, 115, 115, 115, 116]), ((50, 51), []), ((60, 10), [52, 50, 102]), ((60, 11), []), ((60, 20), [50, 115, 115, 102, 102, 102, 102, 116]), ((60, 21), [115]), ((60, 30), [115, 102]), ((60, 31), [115]), ((60, 40), [50, 115, 115, 102, 102]), ((60, 50), [50, 115, 115, 115]), ((60, 60), [115, 56, 102, 115, 115]), ((60, 70), [50, 115, 102]), ((60, 71), [56, 102, 115, 115, 52]), ((60, 72), [115]), ((60, 80), [56, 102]), ((60, 90), [56, 102]), ((60, 110), [102]), ((60, 111), []), ((60, 120), [56, 102, 102]), ((90, 10), []), ((90, 11), []), ((90, 20), []), ((90, 21), []), ((90, 30), []), ((90, 31), [])]

def known3 (x : (Int × Int) × Oct) : List Value := [.int .i64 x.1.1, .int .i64 x.1.2, .string (mkS x.2)]
theorem known3_len (x : (Int × Int) × Oct) : (known3 x).length = 3 := rfl
def knownCells : List Value := knownL.flatMap known3

def plc : Nat → List ((Int × Int) × Oct) → List ((Int × Int) × Int)
  | _, [] => []
  | i, x :: t => (x.1, (i : Int)) :: plc (i + 1) t

theorem plc_get : ∀ (l : List ((Int × Int) × Oct)) (i j : Nat), (plc i l)[j]? = l[j]?.map fun x => (x.1, ((i + j : Nat) : Int))
  | [], _, _ => by simp [plc]
  | x :: t, i, 0 => by simp [plc]
  | x :: t, i, j + 1 => by
    simp only [plc, List.getElem?_cons_succ, plc_get t (i + 1) j]
    congr 1; funext y; congr 2; omega

theorem plc_keys : ∀ (l : List ((Int × Int) × Oct)) (i : Nat), (plc i l).map Prod.fst = l.map (·.1)
  | [], _ => rfl
  | x :: t, i => by simp [plc, plc_keys t]

theorem known_nodup : (knownL.map (·.1)).Nodup := by decide +kernel

/-- A method's form. -/
def formP (c : Int × Int) : Option Oct := (get? knownL c)

theorem k2 : KeyL P T.t2_int (kk2 .i64) := KeyL.arr2 (e := T.int) (by kernel_rfl) (by kernel_rfl) (by kernel_rfl)
theorem u_map : P.underlying T.map_2_int_int = some (.map T.t2_int T.int) := by kernel_rfl

theorem all.spec {K : KT} {h : Heap} (hK : ∀ h', Sl 3 h' (some (top h)) 49 (knownL.flatMap known3) → Kept h h' → K (.slice (some (top h)) 49 49) h') : CallsH P F.meth_all [] K h := by
  refine meth_all.ok ?_
  unfold meth_all.p0
  refine ⟨knownCells, by unfold bldS; kernel_rfl, ?_⟩
  simp only [bd]
  exact hK _ ⟨by kernel_rfl, (Mem.new h knownCells T.meth_known).1⟩ (Keeps.al _ h _ _)

theorem places_loop {K : KT} {h0 : Heap} {p : OA} {r : Nat} (hr : r = h0.size) (s : Sl 3 h0 p 49 (knownL.flatMap known3))
    (hK : ∀ h', Mp (kk2 .i64) (fun n : Int => .int .i64 n) h' (some r) (plc 0 knownL) → Kept h0 h' → K (.map (some r)) h') :
    ∀ (fuel i : Nat) (h : Heap), 49 - i < fuel → i ≤ 49 → Mp (kk2 .i64) (fun n : Int => .int .i64 n) h (some r) ((plc 0 knownL).take i) → Kept h0 h → meth_places.L1 K fuel (some r) p 49 49 49 i h
  | 0, _, _, hf, _, _, _ => absurd hf (Nat.not_lt_zero _)
  | fuel + 1, i, h, hf, hi, M, k => by
    have h49 : knownL.length = 49 := by kernel_rfl
    unfold meth_places.L1
    by_cases hlt : i < 49
    · refine ifT (by simp; omega) ?_
      have hlt' : i < knownL.length := by omega
      refine ixS known3_len (by decide) (s.kept k) rfl (List.getElem?_eq_getElem hlt') ?_
      simp only [bd]
      obtain ⟨h5, e5, m5, k5, _⟩ := box_ok (h := h) (zs := [.int .i64 0, .int .i64 0, .string (mkS [])]) (cs := known3 knownL[i]) (t := T.meth_known) rfl (by simp [known3, one])
      refine ⟨rfl, h5, e5, _, m5.1.get (i := 0) rfl, _, m5.1.get (i := 1) rfl, ?_⟩
      have hkeys : knownL[i].1 ∉ ((plc 0 knownL).take i).map Prod.fst := by
        rw [List.map_take, plc_keys]
        intro hm
        have hn := known_nodup
        rw [← List.take_append_drop i (knownL.map (·.1)), List.drop_eq_getElem_cons (by simpa using hlt')] at hn
        have := (List.nodup_append.1 hn).2.2 _ hm _ (List.mem_cons_self ..)
        simp at this
      have M5 := M.kept k5
      refine update_ok (k := knownL[i].1) (v := (i : Int)) k2 u_map M5 fun u h6 M6 k6 _ => ?_
      have ew : IntKind.i64.wrap ((i : Int) + 1) = ((i + 1 : Nat) : Int) := by rw [wrapI (by omega) (by omega)]; omega
      rw [ew]
      refine places_loop hr s hK fuel (i + 1) h6 (by omega) (by omega) ?_ ?_
      · rw [upd_none hkeys] at M6
        have hg : (plc 0 knownL)[i]? = some (knownL[i].1, (i : Int)) := by rw [plc_get, List.getElem?_eq_getElem hlt']; simp
        have ht : (plc 0 knownL).take (i + 1) = (plc 0 knownL).take i ++ [(knownL[i].1, (i : Int))] := by
          rw [List.take_add_one, hg]; rfl
        rw [ht]
        exact M6
      · exact (k.trans k5).trans' k6 fun b hb e => by omega
    · refine ifF (by simp; omega) (hK h ?_ k)
      have : (plc 0 knownL).length = 49 := by kernel_rfl
      rw [List.take_of_length_le (by omega)] at M
      exact M

theorem places.spec {K : KT} {h : Heap} {p : OA} (s : Sl 3 h p 49 (knownL.flatMap known3)) (hK : ∀ m h', Mp (kk2 .i64) (fun n : Int => .int .i64 n) h' m (plc 0 knownL) → Kept h h' → K (.map m) h') : CallsH P F.meth_places [.slice p 49 49] K h := by
  refine meth_places.ok ?_
  unfold meth_places.p0
  simp only [bd]
  exact ⟨50, places_loop rfl s (fun h' M k => hK _ h' M k) 50 0 _ (by omega) (by omega) (Mp.new _ _ h) (Keeps.push _ _ _)⟩

theorem get?_plc (c : Int × Int) : ∀ (l : List ((Int × Int) × Oct)) (i : Nat), (get? (plc i l) c = none ∧ get? l c = none) ∨ ∃ j f, get? (plc i l) c = some ((i + j : Nat) : Int) ∧ l[j]? = some (c, f) ∧ get? l c = some f
  | [], i => .inl ⟨rfl, rfl⟩
  | x :: t, i => by
    obtain ⟨k, f⟩ := x
    have e1 : ∀ {ν : Type} (k : Int × Int) (v : ν) (t : List ((Int × Int) × ν)), get? ((k, v) :: t) c = if c = k then some v else get? t c := by
      intro ν k v t
      simp only [get?, fnd]
      split
      · rfl
      · have := fnd_shift t c 0 1
        simp only [Nat.zero_add] at this ⊢
        rw [this, Option.map_map]; rfl
    rw [plc, e1, e1]
    by_cases e : c = k
    · subst e
      exact .inr ⟨0, f, by simp, rfl, by simp⟩
    · rw [if_neg e, if_neg e]
      rcases get?_plc c t (i + 1) with h | ⟨j, f', h1, h2, h3⟩
      · exact .inl h
      · exact .inr ⟨j + 1, f', by rw [h1]; congr 2; omega, by simpa using h2, h3⟩

theorem Form.spec {K : KT} {c i : Int} {h : Heap} (hK : ∀ h', Kept h h' → K (.tuple #[.string (mkS ((formP (c, i)).getD [])), .bool (formP (c, i)).isSome]) h') : CallsH P F.meth_Form [.int .i64 c, .int .i64 i] K h := by
  refine meth_Form.ok ?_
  unfold meth_Form.p0
  refine all.spec fun h1 s k1 => ⟨_, _, _, rfl, ?_⟩
  refine places.spec s fun m h2 M k2' => ⟨_, rfl, ?_⟩
  refine lookup_ok (k := (c, i)) (ok := true) (z := .int .i64 0) k2 u_map (by kernel_rfl) M ?_
  simp only [if_true]
  rcases get?_plc (c, i) knownL 0 with ⟨e1, e2⟩ | ⟨j, f, e1, e2, e3⟩
  · rw [e1]
    refine ⟨0, false, rfl, ifT rfl ?_⟩
    have := hK h2 (k1.trans k2')
    unfold formP at this
    rw [e2] at this
    exact this
  · rw [e1, Nat.zero_add]
    refine ⟨(j : Int), true, rfl, ifF rfl ?_⟩
    obtain ⟨a, h1', h2', h3', h4'⟩ := ixF known3_len (by decide) (s.kept k2') rfl e2
    refine ⟨a, h1', h2', h3', f, h4' 2 _ rfl, ?_⟩
    have := hK h2 (k1.trans k2')
    unfold formP at this
    rw [e3] at this
    exact this

/-! ### Flags -/

def flagsP : Oct → Nat
  | [] => 0
  | c :: t => if c = 102 then flagsP t + 1 else 0

theorem flagsP_le : ∀ f : Oct, flagsP f ≤ f.length
  | [] => Nat.le_refl _
  | c :: t => by unfold flagsP; have := flagsP_le t; split <;> simp <;> omega

theorem lbq {f : Oct} {i : Nat} (hi : i < f.length) (n : UInt8) : (lb f i == (n.toNat : Int)) = (f[i] == n) := by
  have e : lb f i = (f[i].toNat : Int) := by simp [lb, List.getD, hi]
  rw [e, Bool.eq_iff_iff, beq_iff_eq, beq_iff_eq]
  constructor
  · intro e; exact UInt8.toNat_inj.1 (by simpa using Int.natCast_inj.1 e)
  · intro e; rw [e]

theorem wsucc {i : Nat} (hi : i < 9223372036854775807) : IntKind.i64.wrap ((i : Int) + 1) = ((i + 1 : Nat) : Int) := by rw [wrapI (by omega) (by omega)]; omega

theorem flags_loop {K : KT} {f : Oct} {h : Heap} (hl : f.length < 1000000) (hK : K (.int .i64 (flagsP f : Nat)) h) :
    ∀ (fuel i : Nat), f.length - i < fuel → i ≤ f.length → flagsP f = i + flagsP (f.drop i) → meth_flags.L1 K fuel f i h
  | 0, _, hf, _, _ => absurd hf (Nat.not_lt_zero _)
  | fuel + 1, i, hf, hi, he => by
    unfold meth_flags.L1
    by_cases hlt : i < f.length
    · refine ifT (by simp; omega) ⟨by omega, by omega, ?_⟩
      have e : (lb f i == 102) = (f[i] == 102) := lbq hlt 102
      rw [e]
      rw [List.drop_eq_getElem_cons hlt, flagsP] at he
      unfold meth_flags.j2
      by_cases h2 : f[i] = 102
      · refine ifT (by simpa using h2) ?_
        simp only [bd]
        rw [wsucc (by omega)]
        rw [if_pos h2] at he
        exact flags_loop hl hK fuel (i + 1) (by omega) (by omega) (by omega)
      · refine ifF (by simpa using h2) ?_
        rw [if_neg h2] at he
        rw [he] at hK
        exact hK
    · refine ifF (by simp; omega) ?_
      unfold meth_flags.j2
      refine ifF rfl ?_
      rw [List.drop_eq_nil_of_le (by omega)] at he
      rw [he] at hK
      exact hK

theorem flags.spec {K : KT} {f : Oct} {h : Heap} (hl : f.length < 1000000) (hK : K (.int .i64 (flagsP f : Nat)) h) : CallsH P F.meth_flags [.string (mkS f)] K h := by
  refine meth_flags.ok ?_
  unfold meth_flags.p0
  exact ⟨f.length + 1, flags_loop hl hK _ 0 (by omega) (by omega) (by simp)⟩

end Go.Proofs.Ytpfnfmlibpoleaa.Pr

/- methTells_holds: all that the theorem needs, in a few texts (bundle.py; made of the texts that NOTES.md names). -/
import Derived.Below
import Derived.KernelRfl
import Derived.Laws.Append
import Derived.Laws.Bits64
import Derived.Laws.BitsAllLaws
import Derived.Laws.BitsLemmas
import Derived.Laws.IdiomStrings
import Derived.Laws.Sem
import Derived.Laws.Strings
import Derived.LoopN
import Derived.MapKept
import Derived.Orders
import Derived.Test.YtjkiaeccjelklaaChecked
import Derived.WideLaws
import Derived.Test.YtjkiaeccjelklaaBMethTellsUpto1
import Derived.Test.YtjkiaeccjelklaaBMethTellsUpto2
import Derived.Test.YtjkiaeccjelklaaBMethTellsUpto3
import Derived.Test.YtjkiaeccjelklaaBMethTellsUpto4
import Derived.Test.YtjkiaeccjelklaaBMethTellsUpto6
import Derived.Test.YtjkiaeccjelklaaBMethTellsUpto7
import Derived.Test.YtjkiaeccjelklaaBMethTellsUpto8
section
set_option linter.unusedVariables false
set_option maxRecDepth 100000
namespace Go.Proofs.Ytjkiaeccjelklaa.Pr
open Go Go.Lift Go.Proofs
def knownL : List ((Int × Int) × Oct) := [((10, 10), [49, 49, 116, 108, 108]), ((10, 11), [116, 115, 108, 115]), ((10, 30), [50, 52, 50]), ((10, 31), [50, 52, 50]), ((10, 40), [115, 115, 102]), ((10, 41), [115]), ((10, 50), [50, 115, 50, 50]), ((10, 51), []), ((20, 10), [115]), ((20, 11), [108]), ((20, 40), [50, 115, 50, 50]), ((20, 41), []), ((40, 10), [50, 115, 115, 102, 102, 102, 102, 102, 116]), ((40, 11), []), ((40, 20), [50, 115, 102, 102]), ((40, 21), []), ((50, 10), [50, 115, 102, 102, 102, 102, 102, 116]), ((50, 11), [115, 52, 52]), ((50, 20), [50, 115, 115, 115, 102, 116]), ((50, 21), []), ((50, 30), [50, 115, 102]), ((50, 31), [52]), ((50, 40), [50, 115, 102, 102, 102]), ((50, 41), [52]), ((50, 50), [50, 115, 115, 115, 116]), ((50, 51), []), ((60, 10), [52, 50, 102]), ((60, 11), []), ((60, 20), [50, 115, 115, 102, 102, 102, 102, 116]), ((60, 21), [115]), ((60, 30), [115, 102]), ((60, 31), [115]), ((60, 40), [50, 115, 115, 102, 102]), ((60, 50), [50, 115, 115, 115]), ((60, 60), [115, 56, 102, 115, 115]), ((60, 70), [50, 115, 102]), ((60, 71), [56, 102, 115, 115, 52]), ((60, 72), [115]), ((60, 80), [56, 102]), ((60, 90), [56, 102]), ((60, 110), [102]), ((60, 111), []), ((60, 120), [56, 102, 102]), ((90, 10), []), ((90, 11), []), ((90, 20), []), ((90, 21), []), ((90, 30), []), ((90, 31), [])]
def known3 (x : (Int × Int) × Oct) : List Value := [.int .i64 x.1.1, .int .i64 x.1.2, .string (mkS x.2)]
theorem known3_len (x : (Int × Int) × Oct) : (known3 x).length = 3 := rfl
def knownCells : List Value := knownL.flatMap known3
def plc : Nat → List ((Int × Int) × Oct) → List ((Int × Int) × Int)
  | _, [] => []
  | i, x :: t => (x.1, (i : Int)) :: plc (i + 1) t
theorem plc_get : ∀ (l : List ((Int × Int) × Oct)) (i j : Nat), (plc i l)[j]? = l[j]?.map fun x => (x.1, ((i + j : Nat) : Int))
  | [], _, _ => by simp [plc]
  | x :: t, i, 0 => by simp [plc]
  | x :: t, i, j + 1 => by
    simp only [plc, List.getElem?_cons_succ, plc_get t (i + 1) j]
    congr 1; funext y; congr 2; omega
theorem plc_keys : ∀ (l : List ((Int × Int) × Oct)) (i : Nat), (plc i l).map Prod.fst = l.map (·.1)
  | [], _ => rfl
  | x :: t, i => by simp [plc, plc_keys t]
theorem known_nodup : (knownL.map (·.1)).Nodup := by decide +kernel
def formP (c : Int × Int) : Option Oct := (get? knownL c)
theorem k2 : KeyL P T.t2_int (kk2 .i64) := KeyL.arr2 (e := T.int) (by kernel_rfl) (by kernel_rfl) (by kernel_rfl)
theorem u_map : P.underlying T.map_2_int_int = some (.map T.t2_int T.int) := by kernel_rfl
theorem all.spec {K : KT} {h : Heap} (hK : ∀ h', Sl 3 h' (some (top h)) 49 (knownL.flatMap known3) → Kept h h' → K (.slice (some (top h)) 49 49) h') : CallsH P F.qcg [] K h := by
  refine qcg.ok ?_
  unfold qcg.p0
  refine ⟨knownCells, by unfold bldS; kernel_rfl, ?_⟩
  simp only [bd]
  exact hK _ ⟨by kernel_rfl, (Mem.new h knownCells T.meth_known).1⟩ (Keeps.al _ h _ _)
theorem places_loop {K : KT} {h0 : Heap} {p : OA} {r : Nat} (hr : r = h0.size) (s : Sl 3 h0 p 49 (knownL.flatMap known3))
    (hK : ∀ h', Mp (kk2 .i64) (fun n : Int => .int .i64 n) h' (some r) (plc 0 knownL) → Kept h0 h' → K (.map (some r)) h') :
    ∀ (fuel i : Nat) (h : Heap), 49 - i < fuel → i ≤ 49 → Mp (kk2 .i64) (fun n : Int => .int .i64 n) h (some r) ((plc 0 knownL).take i) → Kept h0 h → qbi.L1 K fuel (some r) p 49 49 49 i h
  | 0, _, _, hf, _, _, _ => absurd hf (Nat.not_lt_zero _)
  | fuel + 1, i, h, hf, hi, M, k => by
    have h49 : knownL.length = 49 := by kernel_rfl
    unfold qbi.L1
    by_cases hlt : i < 49
    · refine ifT (by simp; omega) ?_
      have hlt' : i < knownL.length := by omega
      refine ixS known3_len (by decide) (s.kept k) rfl (List.getElem?_eq_getElem hlt') ?_
      simp only [bd]
      obtain ⟨h5, e5, m5, k5, _⟩ := box_ok (h := h) (zs := [.int .i64 0, .int .i64 0, .string (mkS [])]) (cs := known3 knownL[i]) (t := T.meth_known) rfl (by simp [known3, one])
      refine ⟨rfl, h5, e5, _, m5.1.get (i := 0) rfl, _, m5.1.get (i := 1) rfl, ?_⟩
      have hkeys : knownL[i].1 ∉ ((plc 0 knownL).take i).map Prod.fst := by
        rw [List.map_take, plc_keys]
        intro hm
        have hn := known_nodup
        rw [← List.take_append_drop i (knownL.map (·.1)), List.drop_eq_getElem_cons (by simpa using hlt')] at hn
        have := (List.nodup_append.1 hn).2.2 _ hm _ (List.mem_cons_self ..)
        simp at this
      have M5 := M.kept k5
      refine update_ok (k := knownL[i].1) (v := (i : Int)) k2 u_map M5 fun u h6 M6 k6 _ => ?_
      have ew : IntKind.i64.wrap ((i : Int) + 1) = ((i + 1 : Nat) : Int) := by rw [wrapI (by omega) (by omega)]; omega
      rw [ew]
      refine places_loop hr s hK fuel (i + 1) h6 (by omega) (by omega) ?_ ?_
      · rw [upd_none hkeys] at M6
        have hg : (plc 0 knownL)[i]? = some (knownL[i].1, (i : Int)) := by rw [plc_get, List.getElem?_eq_getElem hlt']; simp
        have ht : (plc 0 knownL).take (i + 1) = (plc 0 knownL).take i ++ [(knownL[i].1, (i : Int))] := by
          rw [List.take_add_one, hg]; rfl
        rw [ht]
        exact M6
      · exact (k.trans k5).trans' k6 fun b hb e => by omega
    · refine ifF (by simp; omega) (hK h ?_ k)
      have : (plc 0 knownL).length = 49 := by kernel_rfl
      rw [List.take_of_length_le (by omega)] at M
      exact M
theorem places.spec {K : KT} {h : Heap} {p : OA} (s : Sl 3 h p 49 (knownL.flatMap known3)) (hK : ∀ m h', Mp (kk2 .i64) (fun n : Int => .int .i64 n) h' m (plc 0 knownL) → Kept h h' → K (.map m) h') : CallsH P F.qbi [.slice p 49 49] K h := by
  refine qbi.ok ?_
  unfold qbi.p0
  simp only [bd]
  exact ⟨50, places_loop rfl s (fun h' M k => hK _ h' M k) 50 0 _ (by omega) (by omega) (Mp.new _ _ h) (Keeps.push _ _ _)⟩
theorem get?_plc (c : Int × Int) : ∀ (l : List ((Int × Int) × Oct)) (i : Nat), (get? (plc i l) c = none ∧ get? l c = none) ∨ ∃ j f, get? (plc i l) c = some ((i + j : Nat) : Int) ∧ l[j]? = some (c, f) ∧ get? l c = some f
  | [], i => .inl ⟨rfl, rfl⟩
  | x :: t, i => by
    obtain ⟨k, f⟩ := x
    have e1 : ∀ {ν : Type} (k : Int × Int) (v : ν) (t : List ((Int × Int) × ν)), get? ((k, v) :: t) c = if c = k then some v else get? t c := by
      intro ν k v t
      simp only [get?, fnd]
      split
      · rfl
      · have := fnd_shift t c 0 1
        simp only [Nat.zero_add] at this ⊢
        rw [this, Option.map_map]; rfl
    rw [plc, e1, e1]
    by_cases e : c = k
    · subst e
      exact .inr ⟨0, f, by simp, rfl, by simp⟩
    · rw [if_neg e, if_neg e]
      rcases get?_plc c t (i + 1) with h | ⟨j, f', h1, h2, h3⟩
      · exact .inl h
      · exact .inr ⟨j + 1, f', by rw [h1]; congr 2; omega, by simpa using h2, h3⟩
theorem Form.spec {K : KT} {c i : Int} {h : Heap} (hK : ∀ h', Kept h h' → K (.tuple #[.string (mkS ((formP (c, i)).getD [])), .bool (formP (c, i)).isSome]) h') : CallsH P F.qce [.int .i64 c, .int .i64 i] K h := by
  refine qce.ok ?_
  unfold qce.p0
  refine all.spec fun h1 s k1 => ⟨_, _, _, rfl, ?_⟩
  refine places.spec s fun m h2 M k2' => ⟨_, rfl, ?_⟩
  refine lookup_ok (k := (c, i)) (ok := true) (z := .int .i64 0) k2 u_map (by kernel_rfl) M ?_
  simp only [if_true]
  rcases get?_plc (c, i) knownL 0 with ⟨e1, e2⟩ | ⟨j, f, e1, e2, e3⟩
  · rw [e1]
    refine ⟨0, false, rfl, ifT rfl ?_⟩
    have := hK h2 (k1.trans k2')
    unfold formP at this
    rw [e2] at this
    exact this
  · rw [e1, Nat.zero_add]
    refine ⟨(j : Int), true, rfl, ifF rfl ?_⟩
    obtain ⟨a, h1', h2', h3', h4'⟩ := ixF known3_len (by decide) (s.kept k2') rfl e2
    refine ⟨a, h1', h2', h3', f, h4' 2 _ rfl, ?_⟩
    have := hK h2 (k1.trans k2')
    unfold formP at this
    rw [e3] at this
    exact this
def flagsP : Oct → Nat
  | [] => 0
  | c :: t => if c = 102 then flagsP t + 1 else 0
theorem flagsP_le : ∀ f : Oct, flagsP f ≤ f.length
  | [] => Nat.le_refl _
  | c :: t => by unfold flagsP; have := flagsP_le t; split <;> simp <;> omega
theorem lbq {f : Oct} {i : Nat} (hi : i < f.length) (n : UInt8) : (lb f i == (n.toNat : Int)) = (f[i] == n) := by
  have e : lb f i = (f[i].toNat : Int) := by simp [lb, List.getD, hi]
  rw [e, Bool.eq_iff_iff, beq_iff_eq, beq_iff_eq]
  constructor
  · intro e; exact UInt8.toNat_inj.1 (by simpa using Int.natCast_inj.1 e)
  · intro e; rw [e]
theorem wsucc {i : Nat} (hi : i < 9223372036854775807) : IntKind.i64.wrap ((i : Int) + 1) = ((i + 1 : Nat) : Int) := by rw [wrapI (by omega) (by omega)]; omega
theorem flags_loop {K : KT} {f : Oct} {h : Heap} (hl : f.length < 1000000) (hK : K (.int .i64 (flagsP f : Nat)) h) :
    ∀ (fuel i : Nat), f.length - i < fuel → i ≤ f.length → flagsP f = i + flagsP (f.drop i) → qbc.L1 K fuel f i h
  | 0, _, hf, _, _ => absurd hf (Nat.not_lt_zero _)
  | fuel + 1, i, hf, hi, he => by
    unfold qbc.L1
    by_cases hlt : i < f.length
    · refine ifT (by simp; omega) ⟨by omega, by omega, ?_⟩
      have e : (lb f i == 102) = (f[i] == 102) := lbq hlt 102
      rw [e]
      rw [List.drop_eq_getElem_cons hlt, flagsP] at he
      unfold qbc.j2
      by_cases h2 : f[i] = 102
      · refine ifT (by simpa using h2) ?_
        simp only [bd]
        rw [wsucc (by omega)]
        rw [if_pos h2] at he
        exact flags_loop hl hK fuel (i + 1) (by omega) (by omega) (by omega)
      · refine ifF (by simpa using h2) ?_
        rw [if_neg h2] at he
        rw [he] at hK
        exact hK
    · refine ifF (by simp; omega) ?_
      unfold qbc.j2
      refine ifF rfl ?_
      rw [List.drop_eq_nil_of_le (by omega)] at he
      rw [he] at hK
      exact hK
theorem flags.spec {K : KT} {f : Oct} {h : Heap} (hl : f.length < 1000000) (hK : K (.int .i64 (flagsP f : Nat)) h) : CallsH P F.qbc [.string (mkS f)] K h := by
  refine qbc.ok ?_
  unfold qbc.p0
  exact ⟨f.length + 1, flags_loop hl hK _ 0 (by omega) (by omega) (by simp)⟩
end Go.Proofs.Ytjkiaeccjelklaa.Pr
end
section
set_option linter.unusedVariables false
namespace Go.Proofs.Ytjkiaeccjelklaa.Pr
open Go Go.Lift Go.Proofs
section
variable {K : KT} {L : List Asr} {h : Heap}
theorem isl8 {s : SV} {bs : Oct} (S : St L h) [m : In (fun b => Im 1 s (u8s b)) L bs] : Sl 1 h s.1 s.2.1 (u8s bs) ∧ s.2.1 ≤ s.2.2 := S.iml m.mem
theorem cloneS {s : SV} {bs : Oct} (S : St L h) (sl : Sl 1 h s.1 s.2.1 (u8s bs)) (hb : bs.length < 2199023255552)
    (hK : ∀ p l c h', St (Ow 1 (p, l, c) (u8s bs) :: L) h' → K (.slice p l c) h') : CallsH P F.qbg [.slice s.1 s.2.1 s.2.2] K h :=
  Clone.spec sl hb fun p l c h' o f k => hK p l c h' (S.owNew o f k)
theorem intS {s : SV} {n v : Nat} {bs : Oct} (S : St L h) (sl : Sl 1 h s.1 s.2.1 (u8s bs)) (hb : bs.length < 1099511627776) (h1 : 1 ≤ n) (h8 : n ≤ 8)
    (hK : ∀ p l c h', St (Ow 1 (p, l, c) (u8s (bs ++ octsN n v)) :: L) h' → K (.slice p l c) h') : CallsH P F.qbq [.slice s.1 s.2.1 s.2.2, .int .i64 n, .int .u64 v] K h :=
  Int.spec sl hb h1 h8 fun p l c h' o f k => hK p l c h' (S.owNew o f k)
theorem longS {s t : SV} {bs cs : Oct} (S : St L h) (sl : Sl 1 h s.1 s.2.1 (u8s bs)) (tl : Sl 1 h t.1 t.2.1 (u8s cs)) (hb : bs.length < 1099511627776) (hc : cs.length < 1099511627776)
    (hK : ∀ p l c h', St (Ow 1 (p, l, c) (u8s (bs ++ octsN 4 cs.length ++ cs)) :: L) h' → K (.slice p l c) h') : CallsH P F.qcc [.slice s.1 s.2.1 s.2.2, .slice t.1 t.2.1 t.2.2] K h :=
  Long.spec sl tl hb hc fun p l c h' o f k => hK p l c h' (S.owNew o f k)
theorem shortS {s : SV} {bs cs : Oct} (S : St L h) (sl : Sl 1 h s.1 s.2.1 (u8s bs)) (hb : bs.length < 1099511627776)
    (hK : ∀ p l c h', St (Ow 1 (p, l, c) (u8s (if cs.length > 255 then bs else bs ++ octsN 1 cs.length ++ cs)) :: L) h' → K (.tuple #[.slice p l c, .bool (decide (cs.length ≤ 255))]) h') :
    CallsH P F.qbz [.slice s.1 s.2.1 s.2.2, .string (mkS cs)] K h :=
  Short.spec sl hb fun p l c h' o f k => hK p l c h' (S.owNew o f k)
theorem appS {s : SV} {n : Nat} {bs ws : Oct} {xv : Value} {R : List Asr} (S0 : St L h) [Has (fun b => Ow 1 s (u8s b)) L bs R] (src : Src P 1 h xv n (u8s ws)) (hl : bs.length + ws.length < 4398046511104)
    (hK : ∀ p l c h', St (Ow 1 (p, l, c) (u8s (bs ++ ws)) :: R) h' → K (.slice p l c) h') : SemH P (Builtin.append_ #[T.sl_uint8, T.sl_uint8] T.sl_uint8 #[.slice s.1 s.2.1 s.2.2, xv]) K h := by
  have S : St (Ow 1 s (u8s bs) :: R) h := S0.get (fun b => Ow 1 s (u8s b))
  have h1 := S.ow.1
  have h2 := src.1
  simp only [u8s_length, Nat.mul_one] at h1 h2
  refine S.app sl_uint8 rfl u_sl (fun k e => by cases e) src (by omega) (by omega) fun p c h' S' => hK p _ c h' ?_
  have e : u8s (bs ++ ws) = u8s bs ++ u8s ws := by simp [u8s]
  rw [e]
  exact S'
theorem appsS {s : SV} {bs ws : Oct} {R : List Asr} (S0 : St L h) [Has (fun b => Ow 1 s (u8s b)) L bs R] (hl : bs.length + ws.length < 4398046511104)
    (hK : ∀ p l c h', St (Ow 1 (p, l, c) (u8s (bs ++ ws)) :: R) h' → K (.slice p l c) h') : SemH P (Builtin.append_ #[T.sl_uint8, T.string] T.sl_uint8 #[.slice s.1 s.2.1 s.2.2, .string (mkS ws)]) K h := by
  have S : St (Ow 1 s (u8s bs) :: R) h := S0.get (fun b => Ow 1 s (u8s b))
  have h1 := S.ow.1
  simp only [u8s_length, Nat.mul_one] at h1
  refine S.app sl_uint8 rfl u_str (fun k e => by cases e) (Src.str ws) (by omega) (by omega) fun p c h' S' => hK p _ c h' ?_
  have e : u8s (bs ++ ws) = u8s bs ++ u8s ws := by simp [u8s]
  rw [e]
  exact S'
def RdA (r : Addr) (s : RS) : Asr := ex fun p : SV => stars [Bx r [p.v, .bool s.2], Im 1 p (u8s s.1), fact (s.1.length < 1099511627776)]
theorem RdA.op {r : Addr} {s : RS} (S : St (RdA r s :: L) h) : ∃ p : SV, St (Bx r [p.v, .bool s.2] :: Im 1 p (u8s s.1) :: L) h ∧ s.1.length < 1099511627776 := by
  obtain ⟨p, S⟩ := S.ex
  have S := (St.p2 (St.open S)).fact
  exact ⟨p, S.2, S.1⟩
theorem RdA.cl {r : Addr} {s : RS} (p : SV) (S : St (Bx r [p.v, .bool s.2] :: Im 1 p (u8s s.1) :: L) h) (hl : s.1.length < 1099511627776) : St (RdA r s :: L) h :=
  St.ex' p (St.close (St.back [_, _] (S.fact' hl)))
theorem RdA.len {r : Addr} {s : RS} (S : St (RdA r s :: L) h) : s.1.length < 1099511627776 := (RdA.op S).choose_spec.2
theorem fromS {s : SV} {bs : Oct} (S : St L h) [m : In (fun b => Im 1 s (u8s b)) L bs] (hb : bs.length < 1099511627776) (hK : ∀ h', St (RdA (top h) (bs, false) :: L) h' → K (.pointer (some (top h))) h') : CallsH P F.qcb [.slice s.1 s.2.1 s.2.2] K h := by
  refine qcb.ok ?_
  unfold qcb.p0
  simp only [bd]
  exact hK _ (RdA.cl s (St.al (S.imDup m.mem) [s.v, .bool false] T.octs_In) hb)
theorem miss {r : Addr} {s : RS} (S : St (RdA r s :: L) h) {R : Heap → Prop} (hR : ∀ h', St (RdA r ([], true) :: L) h' → R h') :
    ∃ h6, stC h (r.add 0) 0 [.slice none 0 0] = some h6 ∧ ∃ h7, stC h6 (r.add 1) 0 [.bool true] = some h7 ∧ R h7 := by
  obtain ⟨p, S, hl⟩ := RdA.op S
  refine S.wr 0 (by simp) rfl fun h6 S => S.wr 1 (by simp) rfl fun h7 S => hR h7 ?_
  exact RdA.cl (none, 0, 0) ((S.p1.tl.imNil 1 0).p1) (by simp)
theorem takeS {r : Addr} {s : RS} {R : List Asr} {n : Nat} (S0 : St L h) [Has (RdA r) L s R]
    (hK : ∀ p l c h', St (Ow 1 (p, l, c) (u8s (takeP n s).1) :: RdA r (takeP n s).2 :: R) h' → K (.slice p l c) h') : CallsH P F.qbf [.pointer (some r), .int .u64 n] K h := by
  have S : St (RdA r s :: R) h := S0.get (RdA r)
  refine qbf.ok ?_
  unfold qbf.p0
  obtain ⟨p, S0, hl⟩ := RdA.op S
  obtain ⟨bs, bad⟩ := s
  have ht0 : takeP n (bs, bad) = ([], [], true) → qbf.j1 K (some r) n true h := by
    intro ht
    unfold qbf.j1
    refine ifT rfl ?_
    simp only [someE]
    refine miss S fun h7 S => hK none 0 0 h7 ?_
    rw [ht]
    exact S.owNil 1
  simp only [someE, rdB (S0.c 1 rfl), rdS (S0.c 0 rfl)]
  have hs := (S0.p1.iml (List.mem_cons_self ..))
  have el := Sl.len hs.1
  simp only at hl el
  cases bad with
  | true => exact ⟨fun e => (by cases e), fun _ => ht0 (by simp [takeP])⟩
  | false =>
    refine ⟨fun _ => ?_, fun e => (by cases e)⟩
    rw [wrap_len (by omega)]
    by_cases hn : bs.length < n
    · rw [decide_eq_true (by omega)]; exact ht0 (by simp [takeP, hn])
    · rw [decide_eq_false (by omega)]
      have ht : takeP n (bs, false) = (bs.take n, bs.drop n, false) := by simp [takeP]; omega
      rw [ht] at hK
      unfold qbf.j1
      refine ifF rfl ?_
      simp only [someE, rdS (S0.c 0 rfl)]
      refine ⟨⟨by omega, by omega⟩, ?_⟩
      rw [Int.toNat_natCast, slA_zero]
      have st := Sl.take hs.1 (n := n) (by omega)
      rw [u8s_take] at st
      refine cloneS (s := (p.1, n, p.2.2)) S0 st (by simp; omega) fun q l c h2 S2 => ⟨_, _, _, rfl, ?_⟩
      simp only [rdS (S2.p1.c 0 rfl)]
      refine ⟨⟨by omega, by omega⟩, S2.p1.wr 0 (by simp) rfl fun h3 S3 => hK q l c h3 ?_⟩
      have S4 := S3.p2.imDrop (List.mem_cons_self ..) (n := n) (by omega)
      rw [u8s_drop] at S4
      exact (RdA.cl (s := (bs.drop n, false)) (slA p.1 n p.2.2 1, p.2.1 - n, p.2.2 - n) S4.d1.p1 (by simp; omega)).p1
theorem rintS {r : Addr} {s : RS} {R : List Asr} {n : Nat} (S0 : St L h) [Has (RdA r) L s R] (h1 : 1 ≤ n) (h8 : n ≤ 8)
    (hK : ∀ h', St (RdA r (takeP n s).2 :: R) h' → K (.int .u64 (numN (takeP n s).1)) h') : CallsH P F.qbw [.pointer (some r), .int .i64 n] K h := by
  have S : St (RdA r s :: R) h := S0.get (RdA r)
  refine qbw.ok ?_
  unfold qbw.p0
  refine width.spec (by omega) (by omega) ⟨_, rfl, ?_⟩
  rw [wrap_len (by omega)]
  refine takeS S fun p l c h' S' => ⟨_, _, _, rfl, ?_⟩
  exact number.spec S'.sl (takeP_len n s (RdA.len S)) ⟨_, rfl, hK h' S'.tl⟩
theorem okS {r : Addr} {s : RS} {R : List Asr} (S0 : St L h) [Has (RdA r) L s R] (hK : K (.bool (!s.2)) h) : CallsH P F.qbx [.pointer (some r)] K h := by
  have S : St (RdA r s :: R) h := S0.get (RdA r)
  obtain ⟨p, S0, hl⟩ := RdA.op S
  refine qbx.ok ?_
  unfold qbx.p0
  simp only [someE, rdB (S0.c 1 rfl)]
  exact hK
theorem leftS {r : Addr} {s : RS} {R : List Asr} (S0 : St L h) [Has (RdA r) L s R] (hK : K (.int .i64 (s.1.length : Nat)) h) : CallsH P F.qbu [.pointer (some r)] K h := by
  have S : St (RdA r s :: R) h := S0.get (RdA r)
  obtain ⟨p, S0, hl⟩ := RdA.op S
  refine qbu.ok ?_
  unfold qbu.p0
  simp only [someE, rdS (S0.c 0 rfl), bd]
  rw [Sl.len (S0.p1.iml (List.mem_cons_self ..)).1]
  exact hK
theorem measuredS {r : Addr} {s : RS} {R : List Asr} {n : Nat} (S0 : St L h) [Has (RdA r) L s R] (hn : n ≤ 8)
    (hK : ∀ p l c h', St (Ow 1 (p, l, c) (u8s (measP n s).1) :: RdA r (measP n s).2 :: R) h' → K (.slice p l c) h') : CallsH P F.qaz [.pointer (some r), .int .i64 n] K h := by
  have S : St (RdA r s :: R) h := S0.get (RdA r)
  refine qaz.ok ?_
  unfold qaz.p0
  obtain ⟨p, S0, hl⟩ := RdA.op S
  obtain ⟨bs, bad⟩ := s
  have ht0 : (bad = true ∨ bs.length < n) → qaz.j1 K (some r) n true h := by
    intro ht
    unfold qaz.j1
    refine ifT rfl ?_
    rw [wrap_len (by omega)]
    have e : measP n (bs, bad) = takeP n (bs, bad) := by simp only [measP, takeP]; rw [if_pos ht, if_pos ht]
    rw [e] at hK
    exact takeS S fun p l c h' S' => ⟨_, _, _, rfl, hK p l c h' S'⟩
  simp only [someE, rdB (S0.c 1 rfl), rdS (S0.c 0 rfl)]
  have hs := (S0.p1.iml (List.mem_cons_self ..))
  have el := Sl.len hs.1
  simp only at hl el
  cases bad with
  | true => exact ⟨fun e => (by cases e), fun _ => ht0 (.inl rfl)⟩
  | false =>
    refine ⟨fun _ => ?_, fun e => (by cases e)⟩
    by_cases hlt : bs.length < n
    · rw [decide_eq_true (by omega)]; exact ht0 (.inr hlt)
    · rw [decide_eq_false (by omega)]
      unfold qaz.j1
      refine ifF rfl ?_
      simp only [someE, rdS (S0.c 0 rfl)]
      refine ⟨⟨by omega, by omega⟩, ?_⟩
      rw [Int.toNat_natCast, slA_zero]
      have st := Sl.take hs.1 (n := n) (by omega)
      rw [u8s_take] at st
      refine number.spec st (by simp; omega) ⟨_, rfl, ?_⟩
      simp only [rdS (S0.c 0 rfl)]
      have ew : IntKind.u64.wrap (IntKind.i64.wrap ((p.2.1 : Int) - (n : Int))) = ((p.2.1 - n : Nat) : Int) := by
        rw [wrapI (by omega) (by omega), IntKind.wrap_u64]; omega
      rw [ew]
      by_cases hg : numN (bs.take n) > bs.length - n
      · refine ifT (by simp; omega) (miss S fun h7 S => hK none 0 0 h7 ?_)
        have ht : measP n (bs, false) = ([], [], true) := by simp only [measP]; rw [if_neg (by simp; omega), if_pos hg]
        rw [ht]
        exact S.owNil 1
      · refine ifF (by simp; omega) ⟨⟨by omega, by omega⟩, S0.wr 0 (by simp) rfl fun h3 S3 => ?_⟩
        have S4 := S3.p1.imDrop (List.mem_cons_self ..) (n := n) (by omega)
        rw [u8s_drop] at S4
        have S5 := RdA.cl (s := (bs.drop n, false)) (slA p.1 n p.2.2 1, p.2.1 - n, p.2.2 - n) S4.d1.p1 (by simp; omega)
        have ht : measP n (bs, false) = takeP (numN (bs.take n)) (bs.drop n, false) := by
          simp only [measP, takeP]
          rw [if_neg (by simp; omega), if_neg hg, if_neg (by simp; omega)]
        rw [ht] at hK
        exact takeS S5 fun q l c h2 S6 => ⟨_, _, _, rfl, hK q l c h2 S6⟩
theorem rshortS {r : Addr} {s : RS} {R : List Asr} (S0 : St L h) [Has (RdA r) L s R] (hK : ∀ h', St (RdA r (measP 1 s).2 :: R) h' → K (.string (mkS (measP 1 s).1)) h') : CallsH P F.qbs [.pointer (some r)] K h := by
  have S : St (RdA r s :: R) h := S0.get (RdA r)
  refine qbs.ok ?_
  unfold qbs.p0
  refine measuredS (n := 1) S (by omega) fun p l c h' S' => ⟨_, _, _, rfl, ?_⟩
  exact str_ok u_sl u_u8 u_str S'.sl ⟨_, rfl, hK h' S'.tl⟩
theorem rlongS {r : Addr} {s : RS} {R : List Asr} (S0 : St L h) [Has (RdA r) L s R] (hK : ∀ p l c h', St (Ow 1 (p, l, c) (u8s (measP 4 s).1) :: RdA r (measP 4 s).2 :: R) h' → K (.slice p l c) h') : CallsH P F.qbt [.pointer (some r)] K h := by
  have S : St (RdA r s :: R) h := S0.get (RdA r)
  refine qbt.ok ?_
  unfold qbt.p0
  exact measuredS (n := 4) S (by omega) fun p l c h' S' => ⟨_, _, _, rfl, hK p l c h' S'⟩
end
end Go.Proofs.Ytjkiaeccjelklaa.Pr
end
section
set_option linter.unusedVariables false
namespace Go.Proofs.Ytjkiaeccjelklaa.Pr
open Go Go.Lift Go.Proofs
inductive PF where
  | mk (name : Oct) (kind : UInt8) (n : Int) (s : Oct) (t : List PF)
def PF.name : PF → Oct | .mk a _ _ _ _ => a
def PF.kind : PF → UInt8 | .mk _ a _ _ _ => a
def PF.n : PF → Int | .mk _ _ a _ _ => a
def PF.s : PF → Oct | .mk _ _ _ a _ => a
def PF.t : PF → List PF | .mk _ _ _ _ a => a
def fcells (x : PF × SV) : List Value := [.string (mkS x.1.name), .int .u8 (x.1.kind.toNat : Int), .int .i64 x.1.n, .string (mkS x.1.s), x.2.v]
theorem fcells_len (x : PF × SV) : (fcells x).length = 5 := rfl
def TRep : Nat → (Nat → Prop) → Heap → OA → Nat → List PF → Prop
  | 0, _, _, _, _, _ => False
  | d + 1, B, h, p, l, fs => fs.length = l ∧ match p with
    | none => fs = []
    | some a => (fs ≠ [] → B a.block) ∧ ∃ ts : List SV, ts.length = fs.length ∧ At h a ((fs.zip ts).flatMap fcells) ∧ ∀ (i : Nat) (f : PF) (t : SV), fs[i]? = some f → ts[i]? = some t → t.2.1 ≤ t.2.2 ∧ TRep d B h t.1 t.2.1 f.t
theorem TRep.loc {h h' : Heap} : ∀ {d : Nat} {B : Nat → Prop} {p : OA} {l : Nat} {fs : List PF}, (∀ i, B i → h'[i]? = h[i]?) → TRep d B h p l fs → TRep d B h' p l fs
  | 0, _, _, _, _, _, t => False.elim t
  | d + 1, B, p, l, fs, hB, t => by
    obtain ⟨h1, h2⟩ := t
    refine ⟨h1, ?_⟩
    cases p with
    | none => exact h2
    | some a =>
      obtain ⟨h3, ts, h4, h5, h6⟩ := h2
      refine ⟨h3, ts, h4, h5.loc fun hne => hB _ (h3 ?_), fun i f t e1 e2 => ⟨(h6 i f t e1 e2).1, TRep.loc hB (h6 i f t e1 e2).2⟩⟩
      intro e; subst e; simp at hne
theorem TRep.mono {B B' : Nat → Prop} {h : Heap} (hB : ∀ i, B i → B' i) : ∀ {d : Nat} {p : OA} {l : Nat} {fs : List PF}, TRep d B h p l fs → TRep d B' h p l fs
  | 0, _, _, _, t => False.elim t
  | d + 1, p, l, fs, t => by
    obtain ⟨h1, h2⟩ := t
    refine ⟨h1, ?_⟩
    cases p with
    | none => exact h2
    | some a =>
      obtain ⟨h3, ts, h4, h5, h6⟩ := h2
      exact ⟨fun e => hB _ (h3 e), ts, h4, h5, fun i f t e1 e2 => ⟨(h6 i f t e1 e2).1, TRep.mono hB (h6 i f t e1 e2).2⟩⟩
theorem TRep.deeper {B : Nat → Prop} {h : Heap} : ∀ {d : Nat} {p : OA} {l : Nat} {fs : List PF}, TRep d B h p l fs → TRep (d + 1) B h p l fs
  | 0, _, _, _, t => False.elim t
  | d + 1, p, l, fs, t => by
    obtain ⟨h1, h2⟩ := t
    refine ⟨h1, ?_⟩
    cases p with
    | none => exact h2
    | some a =>
      obtain ⟨h3, ts, h4, h5, h6⟩ := h2
      exact ⟨h3, ts, h4, h5, fun i f t e1 e2 => ⟨(h6 i f t e1 e2).1, TRep.deeper (h6 i f t e1 e2).2⟩⟩
theorem TRep.len {B : Nat → Prop} {h : Heap} {d : Nat} {p : OA} {l : Nat} {fs : List PF} (t : TRep d B h p l fs) : l = fs.length := by
  cases d with
  | zero => exact False.elim t
  | succ d => exact t.1.symm
theorem TRep.sl {B : Nat → Prop} {h : Heap} {d : Nat} {p : OA} {l : Nat} {fs : List PF} (t : TRep (d + 1) B h p l fs) : ∃ ts : List SV, ts.length = fs.length ∧ Sl 5 h p l ((fs.zip ts).flatMap fcells) ∧ ∀ (i : Nat) (f : PF) (t : SV), fs[i]? = some f → ts[i]? = some t → t.2.1 ≤ t.2.2 ∧ TRep d B h t.1 t.2.1 f.t := by
  obtain ⟨h1, h2⟩ := t
  cases p with
  | none =>
    have e : fs = [] := h2
    subst e
    simp only [List.length_nil] at h1
    subst h1
    exact ⟨[], rfl, ⟨rfl, rfl⟩, fun i f t e => by simp at e⟩
  | some a =>
    obtain ⟨h3, ts, h4, h5, h6⟩ := h2
    exact ⟨ts, h4, ⟨by rw [flat_length fcells_len]; simp [h4]; omega, h5⟩, h6⟩
theorem TRep.deep {B : Nat → Prop} {h : Heap} {p : OA} {l : Nat} {fs : List PF} {d : Nat} (t : TRep d B h p l fs) : ∀ k, TRep (d + k) B h p l fs
  | 0 => t
  | k + 1 => (t.deep k).deeper
def Tb (B : Nat → Prop) (s : SV) (fs : List PF) : Asr := sh B (fun h => s.2.1 ≤ s.2.2 ∧ ∃ d, TRep d B h s.1 s.2.1 fs)
theorem Tb.lc (B : Nat → Prop) (s : SV) (fs : List PF) : Lc B (fun h => s.2.1 ≤ s.2.2 ∧ ∃ d, TRep d B h s.1 s.2.1 fs) := fun h1 h2 e ⟨x, d, t⟩ => ⟨x, d, t.loc e⟩
section
variable {L : List Asr} {h : Heap}
theorem tbNil (c : Nat) (S : St L h) : St (Tb (fun _ => False) (none, 0, c) [] :: L) h := S.sh_sub0 (fun b x => x) fun h => ⟨Nat.zero_le _, 1, rfl, rfl⟩
theorem tbDup (S : St L h) {B : Nat → Prop} {s : SV} {fs : List PF} [m : In (Tb B s) L fs] : St (Tb B s fs :: L) h := S.dup m.mem (Tb.lc B s fs)
theorem tbAt (S : St L h) {B : Nat → Prop} {s : SV} {fs : List PF} [m : In (Tb B s) L fs] : ∃ ts : List SV, ts.length = fs.length ∧ Sl 5 h s.1 s.2.1 ((fs.zip ts).flatMap fcells) ∧ s.2.1 = fs.length ∧ s.2.1 ≤ s.2.2 ∧
    ∀ (i : Nat) (f : PF) (t : SV), fs[i]? = some f → ts[i]? = some t → St (Tb B t f.t :: L) h := by
  obtain ⟨⟨h1, d, t⟩, h2⟩ := S.sh m.mem
  have t' := t.deeper
  obtain ⟨ts, a1, a2, a3⟩ := t'.sl
  exact ⟨ts, a1, a2, t.len, h1, fun i f t e1 e2 => S.sh_sub m.mem (fun b hb => hb) (Tb.lc B t f.t) ⟨(a3 i f t e1 e2).1, d, (a3 i f t e1 e2).2⟩⟩
theorem tbLen (S : St L h) {B : Nat → Prop} {s : SV} {fs : List PF} [m : In (Tb B s) L fs] : s.2.1 = fs.length := by
  obtain ⟨⟨h1, d, t⟩, h2⟩ := S.sh m.mem
  exact t.len
def Tbs (B : Nat → Prop) (ts : List SV) (fs : List PF) : Asr := sh B (fun h => ts.length = fs.length ∧ ∃ d, ∀ (i : Nat) (f : PF) (t : SV), fs[i]? = some f → ts[i]? = some t → t.2.1 ≤ t.2.2 ∧ TRep d B h t.1 t.2.1 f.t)
theorem Tbs.lc (B : Nat → Prop) (ts : List SV) (fs : List PF) : Lc B (fun h => ts.length = fs.length ∧ ∃ d, ∀ (i : Nat) (f : PF) (t : SV), fs[i]? = some f → ts[i]? = some t → t.2.1 ≤ t.2.2 ∧ TRep d B h t.1 t.2.1 f.t) :=
  fun h1 h2 e ⟨x, d, t⟩ => ⟨x, d, fun i f t' e1 e2 => ⟨(t i f t' e1 e2).1, (t i f t' e1 e2).2.loc e⟩⟩
def OwT (s : SV) (fs : List PF) : Asr := ex fun x : List SV × (Nat → Prop) => sep (Ow 5 s ((fs.zip x.1).flatMap fcells)) (Tbs x.2 x.1 fs)
theorem owtNil (S : St L h) : St (OwT (none, 0, 0) [] :: L) h :=
  St.ex' ([], fun _ => False) (St.join ((S.sh_sub0 (d' := fun _ => False) (fun b x => x) fun h => ⟨rfl, 0, fun i f t e => by simp at e⟩).owNil 5))
theorem owtLen {s : SV} {fs : List PF} (S : St (OwT s fs :: L) h) : s.2.1 = fs.length := by
  obtain ⟨x, S⟩ := S.ex
  have S := S.split
  have h1 := S.ow.1
  have h2 := (S.p1.sh (List.mem_cons_self ..)).1.1
  rw [flat_length fcells_len, List.length_zip, h2, Nat.min_self] at h1
  omega
theorem owtTb {s : SV} {fs : List PF} (S : St (OwT s fs :: L) h) : ∃ B, St (Tb B s fs :: L) h := by
  have hl := owtLen S
  obtain ⟨⟨ts, B⟩, S⟩ := S.ex
  have S := S.split
  have o := S.ow
  obtain ⟨h2, d, h3⟩ := (S.p1.sh (List.mem_cons_self ..)).1
  simp only at S o h2 h3
  refine ⟨fun b => (0 < s.2.2 * 5 ∧ ∃ a, s.1 = some a ∧ a.block = b) ∨ B b, S.toSh own_dom sh_dom (fun b hb => hb) (Tb.lc _ s fs) ⟨o.2.1, d + 1, hl.symm, ?_⟩⟩
  have sl := o.sl
  cases hp : s.1 with
  | none =>
    rw [hp] at sl
    have e := sl.2
    simp only at e
    have := flat_length fcells_len (fs.zip ts)
    rw [e, List.length_zip, h2, Nat.min_self] at this
    exact List.eq_nil_of_length_eq_zero (by simp at this; omega)
  | some a =>
    rw [hp] at sl o
    refine ⟨fun hne => .inl ⟨?_, a, rfl, rfl⟩, ts, h2, sl.2, fun i f t e1 e2 => ⟨(h3 i f t e1 e2).1, (h3 i f t e1 e2).2.mono fun _ x => .inr x⟩⟩
    have := o.2.1
    have : 0 < fs.length := List.length_pos_iff.2 hne
    omega
end
end Go.Proofs.Ytjkiaeccjelklaa.Pr
end
section
set_option linter.unusedVariables false
namespace Go.Proofs.Ytjkiaeccjelklaa.Pr
open Go Go.Lift Go.Proofs
def nat64 (n : Int) : Nat := (n % 18446744073709551616).toNat
def oct8 (n : Int) : UInt8 := UInt8.ofNat (n % 256).toNat
def valueP (rows : List PF → Option Oct) (f : PF) : Option Oct :=
  if f.kind = 116 then (if f.s = [] ∧ f.t = [] ∧ (f.n = 0 ∨ f.n = 1) then some [oct8 f.n] else none)
  else if f.kind = 73 then (if f.s = [] ∧ f.t = [] ∧ f.n ≥ -2147483648 ∧ f.n ≤ 2147483647 then some (octsN 4 (nat64 f.n)) else none)
  else if f.kind = 108 then (if f.s = [] ∧ f.t = [] then some (octsN 8 (nat64 f.n)) else none)
  else if f.kind = 83 then (if f.n = 0 ∧ f.t = [] ∧ f.s.length ≤ 2000 then some (octsN 4 f.s.length ++ f.s) else none)
  else if f.kind = 70 then (match rows f.t with
    | some b => if f.n = 0 ∧ f.s = [] then some (octsN 4 b.length ++ b) else none
    | none => none)
  else if f.kind = 86 then (if f.n = 0 ∧ f.s = [] ∧ f.t = [] then some [] else none)
  else none
def goP (v : PF → Option Oct) : List PF → List Oct → Oct → Option Oct
  | [], _, out => some out
  | f :: r, seen, out => match v f with
    | none => none
    | some b => if f.name ∈ seen ∨ f.name = [] ∨ f.name.length > 128 then none
      else if (out ++ (UInt8.ofNat f.name.length :: f.name ++ f.kind :: b)).length > 2000 then none
      else goP v r (seen ++ [f.name]) (out ++ (UInt8.ofNat f.name.length :: f.name ++ f.kind :: b))
def rowsP : Nat → List PF → Option Oct
  | 0, _ => none
  | d + 1, fs => if fs.length > 2000 then none else goP (valueP (rowsP d)) fs [] []
def smallP : Nat → List PF → Prop
  | 0, _ => True
  | d + 1, fs => ∀ f ∈ fs, f.name.length < 1099511627776 ∧ f.s.length < 1099511627776 ∧ smallP d f.t
theorem goP_len {v : PF → Option Oct} : ∀ {fs : List PF} {seen : List Oct} {out b : Oct}, goP v fs seen out = some b → out.length ≤ 2000 → b.length ≤ 2000
  | [], _, _, _, h, ho => by cases h; exact ho
  | f :: r, seen, out, b, h, ho => by
    unfold goP at h
    split at h
    · cases h
    · split at h
      · cases h
      · split at h
        · cases h
        · exact goP_len h (by omega)
theorem rowsP_len {d : Nat} {fs : List PF} {b : Oct} (h : rowsP d fs = some b) : b.length ≤ 2000 := by
  cases d with
  | zero => cases h
  | succ d =>
    unfold rowsP at h
    split at h
    · cases h
    · exact goP_len h (by simp)
theorem rowsP_lenD (d : Nat) (fs : List PF) : ((rowsP d fs).getD []).length ≤ 2000 := by
  cases h : rowsP d fs with
  | none => simp
  | some b => exact rowsP_len h
theorem wrap_oct8 (n : Int) : IntKind.u8.wrap n = ((oct8 n).toNat : Int) := by
  rw [IntKind.wrap_u8']
  unfold oct8
  have h1 : 0 ≤ n % 256 := Int.emod_nonneg n (by decide)
  have h2 : n % 256 < 256 := Int.emod_lt_of_pos n (by decide)
  rw [UInt8.toNat_ofNat']
  omega
theorem wrap_nat64 (n : Int) : IntKind.u64.wrap n = (nat64 n : Int) := by
  rw [IntKind.wrap_u64]
  unfold nat64
  have h1 : 0 ≤ n % 18446744073709551616 := Int.emod_nonneg n (by decide)
  omega
end Go.Proofs.Ytjkiaeccjelklaa.Pr
end
section
set_option linter.unusedVariables false
set_option linter.unusedSimpArgs false
namespace Go.Proofs.Ytjkiaeccjelklaa.Pr
open Go Go.Lift Go.Proofs
theorem kS : KeyL P T.string (fun s : Oct => Value.string (mkS s)) := KeyL.str (by kernel_rfl)
theorem u_msi : P.underlying T.map_string_int = some (.map T.string T.int) := by kernel_rfl
theorem z_int : (P.info? T.int).bind (·.zero) = some (.int .i64 0) := by kernel_rfl
abbrev SI (m : Nat) (kvs : List (Oct × Int)) : Asr := Mq (fun s : Oct => Value.string (mkS s)) (fun n : Int => .int .i64 n) m kvs
section
variable {K : KT} {L R : List Asr} {h : Heap}
theorem lookSI {m : Nat} {kvs : List (Oct × Int)} {k : Oct} (S : St L h) [Has (SI m) L kvs R] (hK : K (.int .i64 ((get? kvs k).getD 0)) h) : SemH P (Instr.lookup T.map_string_int (.map (some m)) (.string (mkS k)) false) K h := by
  refine (S.get (SI m)).lookup (k := k) kS u_msi z_int ?_
  cases e : get? kvs k <;> rw [e] at hK <;> exact hK
theorem updSI {m : Nat} {kvs : List (Oct × Int)} {k : Oct} {v : Int} (S : St L h) [Has (SI m) L kvs R] (hK : ∀ u h', St (SI m (upd kvs k v) :: R) h' → K u h') : SemH P (unit (Instr.mapUpdate T.map_string_int (.map (some m)) (.string (mkS k)) (.int .i64 v))) K h :=
  (S.get (SI m)).update (k := k) (v := v) kS u_msi hK
def RowsC (d : Nat) : Prop := ∀ {K : KT} {L : List Asr} {h : Heap} {B : Nat → Prop} {t : SV} {fs : List PF} (S : St L h) [In (Tb B t) L fs] (hs : smallP d fs)
  (hK : ∀ p l c h', St (Ow 1 (p, l, c) (u8s ((rowsP d fs).getD [])) :: L) h' → K (.tuple #[.slice p l c, .bool (rowsP d fs).isSome]) h'),
  CallsH P F.qau [.slice t.1 t.2.1 t.2.2, .int .i64 (9 - (d : Int))] K h
theorem hcell_al {h : Heap} {a : Addr} {k : Nat} (ha : a.block < h.size) (cs : Array Value) (t : TypeId) : hcell (al h cs t) (a.add k) = hcell h (a.add k) := by
  refine hcell_eq ?_
  rw [add_block]
  unfold al
  rw [Array.getElem?_push, if_neg (by omega)]
theorem value_of {d : Nat} (hr : RowsC d) (hd : d ≤ 7) {B : Nat → Prop} {t : SV} {f : PF} (S : St L h) [In (Tb B t) L f.t] (hs : f.s.length < 1099511627776) (hst : smallP d f.t)
    (hK : ∀ bs p l c h', (∀ w, valueP (rowsP d) f = some w → bs = w) → St (Ow 1 (p, l, c) (u8s bs) :: L) h' → K (.tuple #[.slice p l c, .bool (valueP (rowsP d) f).isSome]) h') :
    CallsH P F.qbd [.agg (List.toArray (fcells (f, t))), .int .i64 (8 - (d : Int))] K h := by
  have tl := tbLen S (B := B) (s := t)
  refine qbd.ok ?_
  unfold qbd.p0
  simp only [bd]
  have S1 := S.al (fcells (f, t)) T.api_Field
  generalize al h (fcells (f, t)).toArray T.api_Field = h1 at *
  generalize top h = a at *
  have c1 := S1.rc a 1 rfl
  have c2 := S1.rc a 2 rfl
  have c3 := S1.rc a 3 rfl
  have c4 := S1.rc a 4 rfl
  have ef : (((t.2.1 : Nat) : Int) == 0) = decide (f.t = []) := by
    rw [tl, Bool.eq_iff_iff, beq_iff_eq, decide_eq_true_eq]
    exact ⟨fun e => List.eq_nil_of_length_eq_zero (by omega), fun e => by rw [e]; rfl⟩
  have go : qbd.j2 K (8 - (d : Int)) a (decide (f.n = 0 ∧ f.s = [] ∧ f.t = [])) (decide (f.s = [] ∧ f.t = [])) h1 := by
    have ha : a.block < h1.size := (S1.get (Bx a)).blt
    unfold qbd.j2
    simp only [bd, rdN c1, rdN c2, rdT c3, rdS c4, hcell_al ha]
    have eb : ∀ n : UInt8, (((f.kind.toNat : Nat) : Int) == (n.toNat : Int)) = decide (f.kind = n) := fun n => by
      rw [Bool.eq_iff_iff, beq_iff_eq, decide_eq_true_eq]
      exact ⟨fun e => UInt8.toNat_inj.1 (by omega), fun e => by rw [e]⟩
    have e116 := eb 116
    have e73 := eb 73
    have e108 := eb 108
    have e83 := eb 83
    have e70 := eb 70
    have e86 := eb 86
    simp only [show ((116 : UInt8).toNat : Int) = 116 from rfl, show ((73 : UInt8).toNat : Int) = 73 from rfl, show ((108 : UInt8).toNat : Int) = 108 from rfl, show ((83 : UInt8).toNat : Int) = 83 from rfl, show ((70 : UInt8).toNat : Int) = 70 from rfl, show ((86 : UInt8).toNat : Int) = 86 from rfl] at e116 e73 e108 e83 e70 e86
    rw [e116, e73, e108, e83, e70, e86]
    unfold valueP at hK
    have close : ∀ (bs : Oct) (p : OA) (l c : Nat) (h' : Heap) (b : Bool) (w : Option Oct), (if b then some bs else none) = w → St (Ow 1 (p, l, c) (u8s bs) :: L) h' →
        (∀ bs p l c h', (∀ w', w = some w' → bs = w') → St (Ow 1 (p, l, c) (u8s bs) :: L) h' → K (.tuple #[.slice p l c, .bool w.isSome]) h') → K (.tuple #[.slice p l c, .bool b]) h' := by
      intro bs p l c h' b w e S' hk
      subst e
      have := hk bs p l c h' (fun w' e => by
        cases b with
        | true => cases e; rfl
        | false => cases e) S'
      cases b <;> exact this
    have slN : ∀ h : Heap, Sl 1 h none 0 (u8s []) := fun h => ⟨rfl, rfl⟩
    by_cases k1 : f.kind = 116
    · refine ifT (by simp [k1]) ?_
      rw [if_pos k1] at hK
      have fin : ∀ b : Bool, b = (decide (f.s = [] ∧ f.t = []) && (f.n == 0 || f.n == 1)) → K (.tuple #[.slice (some (top h1)) 1 1, .bool b]) (al h1 #[.int .u8 (IntKind.u8.wrap f.n)] T.uint8) := by
        intro b hb
        rw [wrap_oct8]
        have S2 := (S1.tl.al [.int .u8 ((oct8 f.n).toNat : Int)] T.uint8).bxOw (n := 1) (sz := 1) rfl
        refine close [oct8 f.n] _ _ _ _ b _ ?_ S2 hK
        subst hb
        simp only [Bool.and_eq_true, Bool.or_eq_true, decide_eq_true_eq, beq_iff_eq, and_assoc]
      cases hb1 : (f.n == 0) <;> cases hb2 : (f.n == 1) <;> cases hb3 : decide (f.s = [] ∧ f.t = []) <;>
        simp only [hb1, hb2, hb3, Bool.false_eq_true, reduceCtorEq, false_imp_iff, true_imp_iff, forall_const, and_true, true_and, and_self] <;>
        exact fin _ (by rw [hb1, hb2, hb3]; rfl)
    refine ifF (by simp [k1]) ?_
    rw [if_neg k1] at hK
    by_cases k2 : f.kind = 73
    · refine ifT (by simp [k2]) ?_
      rw [if_pos k2] at hK
      rw [wrap_nat64]
      refine intS (s := (none, 0, 0)) (n := 4) (bs := []) S1 (slN _) (by simp) (by omega) (by omega) fun p l c h2 S2 => ⟨_, _, _, rfl, ?_⟩
      simp only [rdN (S2.rc a 2 rfl)]
      have fin : ∀ b : Bool, b = (decide (f.s = [] ∧ f.t = []) && (decide (f.n ≥ -2147483648) && decide (f.n ≤ 2147483647))) → K (.tuple #[.slice p l c, .bool b]) h2 := by
        intro b hb
        refine close _ _ _ _ _ b _ ?_ (S2.d1) hK
        subst hb
        simp only [Bool.and_eq_true, decide_eq_true_eq, List.nil_append, and_assoc]
      cases hb1 : decide (f.n ≥ -2147483648) <;> cases hb2 : decide (f.n ≤ 2147483647) <;> cases hb3 : decide (f.s = [] ∧ f.t = []) <;>
        simp only [hb1, hb2, hb3, Bool.false_eq_true, reduceCtorEq, false_imp_iff, true_imp_iff, forall_const, and_true, true_and, and_self] <;>
        exact fin _ (by rw [hb1, hb2, hb3]; rfl)
    refine ifF (by simp [k2]) ?_
    rw [if_neg k2] at hK
    by_cases k3 : f.kind = 108
    · refine ifT (by simp [k3]) ?_
      rw [if_pos k3] at hK
      rw [wrap_nat64]
      refine intS (s := (none, 0, 0)) (n := 8) (bs := []) S1 (slN _) (by simp) (by omega) (by omega) fun p l c h2 S2 => ⟨_, _, _, rfl, ?_⟩
      refine close _ _ _ _ _ _ _ ?_ (S2.d1) hK
      simp only [decide_eq_true_eq, List.nil_append]
    refine ifF (by simp [k3]) ?_
    rw [if_neg k3] at hK
    by_cases k4 : f.kind = 83
    · refine ifT (by simp [k4]) ?_
      rw [if_pos k4] at hK
      have fin : ∀ (p : OA) (l c : Nat) (h' : Heap) (b : Bool), St (Ow 1 (p, l, c) (u8s ([] ++ octsN 4 f.s.length ++ f.s)) :: L) h' → b = ((f.n == 0) && ((((t.2.1 : Nat) : Int) == 0) && decide (((List.length f.s : Nat) : Int) ≤ 2000))) → K (.tuple #[.slice p l c, .bool b]) h' := by
        intro p l c h' b S2 hb
        refine close _ _ _ _ _ b _ ?_ S2 hK
        subst hb
        rw [ef]
        simp only [Bool.and_eq_true, decide_eq_true_eq, beq_iff_eq, List.nil_append]
        congr 3
        exact propext ⟨fun x => by omega, fun x => by omega⟩

      repeat' (first
        | with_reducible refine And.intro ?_ ?_
        | (refine St.bytes u_str u_sl u_u8 S1 fun c h2 S2 => ⟨_, _, _, rfl, ?_⟩
           try simp only [rdN (S2.rc a 2 rfl), rdT (S2.rc a 3 rfl), rdS (S2.rc a 4 rfl)]))
      all_goals
        refine longS (s := (none, 0, 0)) (t := (some (top h1), f.s.length, _)) (bs := []) S2 (slN _) S2.sl (by simp) hs fun p l c h3 S3 => ⟨_, _, _, rfl, ?_⟩
        simp only [rdN (S3.rc a 2 rfl), rdT (S3.rc a 3 rfl), rdS (S3.rc a 4 rfl)]
        cases hb1 : (f.n == 0) <;> cases hb2 : (((t.2.1 : Nat) : Int) == 0) <;> cases hb3 : decide (((List.length f.s : Nat) : Int) ≤ 2000) <;>
          simp only [hb1, hb2, hb3, Bool.false_eq_true, reduceCtorEq, false_imp_iff, true_imp_iff, forall_const, and_true, true_and, and_self] <;>
          exact fin _ _ _ _ _ S3.d1.d1 (by rw [hb1, hb2, hb3]; rfl)
    refine ifF (by simp [k4]) ?_
    rw [if_neg k4] at hK
    by_cases k5 : f.kind = 70
    · refine ifT (by simp [k5]) ?_
      rw [if_pos k5] at hK
      have ed : IntKind.i64.wrap (8 - (d : Int) + 1) = 9 - (d : Int) := by rw [wrapI (by omega) (by omega)]; omega
      rw [ed]
      refine hr (B := B) (fs := f.t) S1 hst fun p l c h2 S2 => ⟨_, _, _, _, rfl, ?_⟩
      have := rowsP_lenD d f.t
      refine longS (s := (none, 0, 0)) (t := (p, l, c)) (bs := []) S2 (slN _) S2.sl (by simp) (by omega) fun p l c h3 S3 => ⟨_, _, _, rfl, ?_⟩
      simp only [rdN (S3.rc a 2 rfl), rdT (S3.rc a 3 rfl)]
      have fin : ∀ b : Bool, b = ((rowsP d f.t).isSome && ((f.n == 0) && (f.s == ([] : List UInt8)))) → K (.tuple #[.slice p l c, .bool b]) h3 := by
        intro b hb
        refine close _ _ _ _ _ b _ ?_ S3.d1.d1 hK
        subst hb
        cases e : rowsP d f.t <;> simp [e]
      cases hb1 : (f.n == 0) <;> cases hb2 : (f.s == ([] : List UInt8)) <;> cases hb3 : (rowsP d f.t).isSome <;>
        simp only [hb1, hb2, hb3, Bool.false_eq_true, reduceCtorEq, false_imp_iff, true_imp_iff, forall_const, and_true, true_and, and_self] <;>
        exact fin _ (by rw [hb1, hb2, hb3]; rfl)
    refine ifF (by simp [k5]) ?_
    rw [if_neg k5] at hK
    by_cases k6 : f.kind = 86
    · refine ifT (by simp [k6]) ?_
      rw [if_pos k6] at hK
      refine close [] _ _ _ _ _ _ ?_ (S1.tl.owNil 1) hK
      simp only [decide_eq_true_eq]
    refine ifF (by simp [k6]) ?_
    rw [if_neg k6] at hK
    exact close [] _ _ _ _ false none rfl (S1.tl.owNil 1) hK
  have go1 : qbd.j1 K (8 - (d : Int)) a (decide (f.n = 0 ∧ f.s = [] ∧ f.t = [])) h1 := by
    unfold qbd.j1
    simp only [bd, rdT c3, rdS c4]
    by_cases e1 : f.s = []
    · refine ifT (by simp [e1]) ?_
      rw [ef]
      simpa [e1] using go
    · refine ifF (by simp [e1]) ?_
      simpa [e1] using go
  simp only [rdN c2, rdT c3, rdS c4]
  rw [ef]
  by_cases e1 : f.n = 0
  · refine ifT (by simp [e1]) ?_
    by_cases e2 : f.s = []
    · refine ifT (by simp [e2]) ?_
      simpa [e1, e2] using go1
    · refine ifF (by simp [e2]) ?_
      simpa [e2] using go1
  · refine ifF (by simp [e1]) ?_
    simpa [e1] using go1
def ones (l : List Oct) : List (Oct × Int) := l.map fun n => (n, 1)
theorem ones_get (l : List Oct) (n : Oct) : get? (ones l) n = if n ∈ l then some 1 else none := by
  induction l with
  | nil => rfl
  | cons x t ih =>
    unfold ones get? at ih ⊢
    simp only [List.map_cons, fnd]
    by_cases e : n = x
    · simp [e]
    · have a2 := fnd_shift (t.map fun n => (n, (1 : Int))) n 0 1
      simp only [Nat.zero_add] at a2
      rw [if_neg e, a2, Option.map_map]
      simp only [List.mem_cons, e, false_or]
      exact ih
theorem ones_upd {l : List Oct} {n : Oct} (h : n ∉ l) : upd (ones l) n 1 = ones (l ++ [n]) := by
  rw [upd_none (by simpa [ones] using h)]
  simp [ones]
theorem valueP_len {d : Nat} {f : PF} {b : Oct} (h : valueP (rowsP d) f = some b) : b.length ≤ 2004 := by
  unfold valueP at h
  split at h
  · split at h <;> cases h
    simp
  split at h
  · split at h <;> cases h
    simp [octsN_length]
  split at h
  · split at h <;> cases h
    simp [octsN_length]
  split at h
  · split at h <;> cases h
    rename_i x
    simp [octsN_length]
    omega
  split at h
  · cases hr : rowsP d f.t with
    | none => rw [hr] at h; cases h
    | some w =>
      rw [hr] at h
      simp only at h
      have := rowsP_len hr
      split at h <;> cases h
      simp [octsN_length]
      omega
  split at h
  · split at h <;> cases h
    simp
  · cases h
theorem rows_loop {d : Nat} (hr : RowsC d) (hd : d ≤ 7) {B : Nat → Prop} {t : SV} {fs : List PF} {m : Nat} (hlen : fs.length ≤ 2000) (hs : smallP (d + 1) fs) {res : Option Oct}
    (hK : ∀ p l c h', St (Ow 1 (p, l, c) (u8s (res.getD [])) :: L) h' → K (.tuple #[.slice p l c, .bool res.isSome]) h') [hB : In (Tb B t) L fs] :
    ∀ (fuel i : Nat) (s : SV) (seen : List Oct) (out : Oct) (h : Heap), fs.length - i < fuel → i ≤ fs.length → out.length ≤ 2000 → goP (valueP (rowsP d)) (fs.drop i) seen out = res → St (Ow 1 s (u8s out) :: SI m (ones seen) :: L) h →
      qau.L2 K fuel (8 - (d : Int)) s.1 s.2.1 s.2.2 (some m) t.1 t.2.1 t.2.2 ((t.2.1 : Nat) : Int) i h
  | 0, _, _, _, _, _, hf, _, _, _, _ => absurd hf (Nat.not_lt_zero _)
  | fuel + 1, i, s, seen, out, h, hf, hi, ho, hg, S => by
    unfold qau.L2
    obtain ⟨ts, t1, t2, t3, t4, t5⟩ := tbAt S (B := B) (s := t) (fs := fs)
    have fail : res = none → ∀ h', St L h' → K (.tuple #[.slice none 0 0, .bool false]) h' := by
      intro e h' S'
      subst e
      exact hK none 0 0 h' (S'.owNil 1)
    by_cases hlt : i < fs.length
    · have hit : i < ts.length := by omega
      have hx : (fs.zip ts)[i]? = some (fs[i], ts[i]) := by rw [List.getElem?_eq_getElem (by rw [List.length_zip]; omega), List.getElem_zip]
      refine ifT (by simp; omega) ?_
      refine ixS fcells_len (by decide) t2 rfl hx ?_
      simp only [bd]
      have ST := t5 i fs[i] ts[i] (List.getElem?_eq_getElem hlt) (List.getElem?_eq_getElem hit)
      generalize hf' : fs[i] = f at *
      have S1 := ST.al [.string (mkS ([] : List UInt8)), .int .u8 0, .int .i64 0, .string (mkS ([] : List UInt8)), .slice none 0 0] T.api_Field
      refine ⟨rfl, S1.putA (top h) rfl (by simp [fcells, one, SV.v]) fun h5 S2 => ?_⟩
      clear S1
      generalize top h = a at *
      simp only [rdT (S2.rc a 0 rfl)]
      have hsf := hs f (by rw [← hf']; exact List.getElem_mem hlt)
      refine lookSI S2 ⟨_, rfl, updSI S2 fun u h6 S3 => ?_⟩
      simp only [rdC' (S3.rall a 5 rfl)]
      refine value_of hr hd (B := B) (t := ts[i]) (f := f) S3 hsf.2.1 hsf.2.2 fun bs p l c h7 hbs S4 => ⟨_, _, _, _, rfl, ?_⟩
      have hdrop : fs.drop i = f :: fs.drop (i + 1) := by rw [← hf']; exact List.drop_eq_getElem_cons hlt
      rw [hdrop] at hg
      unfold goP at hg
      cases hv : valueP (rowsP d) f with
      | none =>
        rw [hv] at hg
        refine ifT' rfl ?_
        unfold qau.j3
        exact ifT rfl (fail hg.symm h7 S4.to)
      | some b =>
        rw [hv] at hg
        simp only at hg
        obtain rfl : bs = b := hbs b hv
        refine ifF' rfl ?_
        simp only [rdT (S4.rc a 0 rfl)]
        refine lookSI S4 ⟨_, rfl, ?_⟩
        have bad : (f.name ∈ seen ∨ f.name = [] ∨ f.name.length > 128) → qau.j3 K (qau.L2 K fuel) (8 - (d : Int)) s.1 s.2.1 s.2.2 (some m) a p l c t.1 t.2.1 t.2.2 ((t.2.1 : Nat) : Int) i true h7 := by
          intro e
          rw [if_pos e] at hg
          unfold qau.j3
          exact ifT rfl (fail hg.symm h7 S4.to)
        rw [get?_upd, if_pos rfl, ones_get]
        by_cases e1 : f.name ∈ seen
        · rw [if_pos e1]
          exact ifT' rfl (bad (.inl e1))
        · rw [if_neg e1]
          refine ifF' rfl ?_
          simp only [rdT (S4.rc a 0 rfl)]
          by_cases e2 : f.name = []
          · exact ifT' (by simp [e2]) (bad (.inr (.inl e2)))
          · refine ifF' (by simp [e2]) ?_
            by_cases e3 : f.name.length > 128
            · rw [decide_eq_true (by omega)]
              exact bad (.inr (.inr e3))
            · rw [decide_eq_false (by omega)]
              rw [if_neg (by simp [e1, e2]; omega)] at hg
              have hbl := valueP_len hv
              have e8 : IntKind.u8.wrap ((f.name.length : Nat) : Int) = (((UInt8.ofNat f.name.length).toNat : Nat) : Int) := by
                rw [IntKind.wrap_u8', UInt8.toNat_ofNat']; omega
              unfold qau.j3
              refine ifF rfl ?_
              simp only [rdT (S4.rc a 0 rfl), rdN (S4.rc a 1 rfl), bd]
              rw [e8]
              have S5 := S4.al (u8s [UInt8.ofNat f.name.length]) T.uint8
              refine appS (s := s) S5 (Src.slice (p := some (top h7)) (n := 1) ⟨rfl, (S5.get (Bx (top h7))).mem.1⟩ (u8s_one _)) (by simp; omega) fun p1 l1 c1 h8 S6 => ⟨_, _, _, rfl, ?_⟩
              simp only [rdT (S6.rc a 0 rfl)]
              refine appsS (s := (p1, l1, c1)) S6 (by simp; omega) fun p2 l2 c2 h9 S7 => ⟨_, _, _, rfl, ?_⟩
              simp only [rdN (S7.rc a 1 rfl)]
              have S8 := S7.al (u8s [f.kind]) T.uint8
              refine appS (s := (p2, l2, c2)) S8 (Src.slice (p := some (top h9)) (n := 1) ⟨rfl, (S8.get (Bx (top h9))).mem.1⟩ (u8s_one _)) (by simp; omega) fun p3 l3 c3 h10 S9 => ⟨_, _, _, rfl, ?_⟩
              have sb := S9.osl 1 (p, l, c)
              refine appS (s := (p3, l3, c3)) S9 (Src.slice sb (u8s_one _)) (by simp; omega) fun p4 l4 c4 h11 S10 => ⟨_, _, _, rfl, ?_⟩
              have eo : out ++ [UInt8.ofNat f.name.length] ++ f.name ++ [f.kind] ++ bs = out ++ (UInt8.ofNat f.name.length :: f.name ++ f.kind :: bs) := by simp
              rw [eo] at S10
              generalize out ++ (UInt8.ofNat f.name.length :: f.name ++ f.kind :: bs) = out' at *
              have hl4 := S10.ow.1
              simp only [u8s_length, Nat.mul_one] at hl4
              by_cases e4 : out'.length > 2000
              · rw [if_pos e4] at hg
                exact ifT (by simp; omega) (fail hg.symm _ S10.to)
              · rw [if_neg e4] at hg
                refine ifF (by simp; omega) ?_
                rw [wsucc (by omega)]
                have hu : upd (ones seen) f.name (IntKind.i64.wrap ((if f.name ∈ seen then some 1 else none : Option Int).getD 0 + 1)) = ones (seen ++ [f.name]) := by
                  rw [if_neg e1]; exact ones_upd e1
                rw [ones_get, hu] at S10
                exact rows_loop (B := B) hr hd hlen hs hK fuel (i + 1) (p4, l4, c4) (seen ++ [f.name]) out' h11 (by omega) (by omega) (by omega) hg S10.to
    · refine ifF (by simp; omega) ?_
      rw [List.drop_eq_nil_of_le (by omega)] at hg
      cases hg
      exact hK _ _ _ _ S.d1
theorem rows_spec : ∀ d : Nat, d ≤ 8 → RowsC d
  | 0, _ => by
    intro S _ hs hK; rename_i K L h B t fs _ _
    refine qau.ok ?_
    unfold qau.p0 qau.j1
    refine ifT' (by decide) (ifT rfl ?_)
    exact hK none 0 0 h (S.owNil 1)
  | d + 1, hd => by
    intro S _ hs hK; rename_i K L h B t fs _
    have hr : RowsC d := rows_spec d (by omega)
    have tl := tbLen S (B := B) (s := t)
    refine qau.ok ?_
    unfold qau.p0 qau.j1
    have ed : 9 - ((d + 1 : Nat) : Int) = 8 - (d : Int) := by omega
    rw [ed]
    refine ifF' (decide_eq_false (by omega)) ?_
    unfold rowsP at hK
    by_cases hl : fs.length > 2000
    · rw [if_pos hl] at hK
      exact ifT (by simp; omega) (hK none 0 0 h (S.owNil 1))
    · rw [if_neg hl] at hK
      refine ifF (by simp; omega) ?_
      simp only [bd]
      refine ⟨fs.length + 1, rows_loop (B := B) (t := t) hr (by omega) (by omega) hs hK _ 0 (none, 0, 0) [] [] _ (by omega) (by omega) (by simp) rfl ?_⟩
      exact (S.mqNew _ _).owNil 1
def tableP (fs : List PF) : Option Oct := rowsP 8 fs
theorem rowsS {B : Nat → Prop} {t : SV} {fs : List PF} (S : St L h) [In (Tb B t) L fs] (hs : smallP 8 fs)
    (hK : ∀ p l c h', St (Ow 1 (p, l, c) (u8s ((tableP fs).getD [])) :: L) h' → K (.tuple #[.slice p l c, .bool (tableP fs).isSome]) h') : CallsH P F.qau [.slice t.1 t.2.1 t.2.2, .int .i64 1] K h :=
  rows_spec 8 (by omega) (B := B) S hs hK
theorem tokS {B : Nat → Prop} {t : SV} {fs : List PF} (S : St L h) [In (Tb B t) L fs] (hs : smallP 8 fs) (hK : ∀ h', St L h' → K (.bool (tableP fs).isSome) h') : CallsH P F.qch [.slice t.1 t.2.1 t.2.2] K h := by
  refine qch.ok ?_
  unfold qch.p0
  exact rowsS (B := B) S hs fun p l c h' S' => ⟨_, _, _, _, rfl, hK h' S'.tl⟩
theorem tappS {B : Nat → Prop} {t s : SV} {fs : List PF} {bs : Oct} (S : St L h) [In (Tb B t) L fs] (sl : Im 1 s (u8s bs) ∈ L) (hs : smallP 8 fs) (hb : bs.length < 1099511627776)
    (hK : ∀ p l c h', St (Ow 1 (p, l, c) (u8s (bs ++ (tableP fs).getD [])) :: L) h' → K (.tuple #[.slice p l c, .bool (tableP fs).isSome]) h') : CallsH P F.qbv [.slice s.1 s.2.1 s.2.2, .slice t.1 t.2.1 t.2.2] K h := by
  refine qbv.ok ?_
  unfold qbv.p0
  refine rowsS (B := B) S hs fun p l c h1 S1 => ⟨_, _, _, _, rfl, ?_⟩
  refine cloneS S1 (S1.tl.iml sl).1 (by omega) fun p2 l2 c2 h2 S2 => ⟨_, _, _, rfl, ?_⟩
  have := rowsP_lenD 8 fs
  refine appS (s := (p2, l2, c2)) S2 (Src.slice (S2.osl 1 (p, l, c)) (u8s_one _)) (by simp only [tableP]; omega) fun p3 l3 c3 h3 S3 => ⟨_, _, _, rfl, hK p3 l3 c3 h3 S3.to⟩
end
end Go.Proofs.Ytjkiaeccjelklaa.Pr
end
section
set_option linter.unusedVariables false
set_option linter.unusedSimpArgs false
namespace Go.Proofs.Ytjkiaeccjelklaa.Pr
open Go Go.Lift Go.Proofs
def fieldOkP (f : PF) : Bool := decide (1 ≤ f.name.length ∧ f.name.length ≤ 128) &&
  (if f.kind = 116 then decide ((f.n = 0 ∨ f.n = 1) ∧ f.s = [] ∧ f.t = [])
  else if f.kind = 73 then decide (-2147483648 ≤ f.n ∧ f.n < 2147483648 ∧ f.s = [] ∧ f.t = [])
  else if f.kind = 108 then decide (f.s = [] ∧ f.t = [])
  else if f.kind = 83 then decide (f.n = 0 ∧ f.t = [])
  else if f.kind = 70 then decide (f.n = 0 ∧ f.s = [])
  else if f.kind = 86 then decide (f.n = 0 ∧ f.s = [] ∧ f.t = [])
  else false)
def formGo (sub : List PF → Bool) : List PF → List Oct → Bool
  | [], _ => true
  | f :: r, seen => fieldOkP f && (f.kind != 70 || sub f.t) && decide (f.name ∉ seen) && formGo sub r (seen ++ [f.name])
def formedP : Nat → List PF → Bool
  | 0, _ => false
  | d + 1, fs => formGo (formedP d) fs []
def valR (sub : List PF → Oct) (f : PF) : Oct :=
  if f.kind = 116 then octsN 1 (nat64 f.n)
  else if f.kind = 73 then octsN 4 (nat64 f.n)
  else if f.kind = 108 then octsN 8 (nat64 f.n)
  else if f.kind = 83 then octsN 4 f.s.length ++ f.s
  else if f.kind = 70 then octsN 4 (sub f.t).length ++ sub f.t
  else []
def rowR (sub : List PF → Oct) (f : PF) : Oct := octsN 1 f.name.length ++ f.name ++ [f.kind] ++ valR sub f
def rowsR : Nat → List PF → Oct
  | 0, _ => []
  | d + 1, fs => fs.flatMap (rowR (rowsR d))
def wgtGo (sub : List PF → Nat) : List PF → Nat → Nat
  | [], n => n
  | f :: r, n => if n ≤ 2000 then wgtGo sub r (n + 13 + f.name.length + min f.s.length 4000 + sub f.t) else n
def wgtP : Nat → List PF → Nat
  | 0, _ => 0
  | d + 1, fs => wgtGo (wgtP d) fs 0
def tableOkP (fs : List PF) : Bool := formedP 8 fs && decide ((rowsR 8 fs).length ≤ 2000)
def wtD : Nat → List PF → Nat
  | 0, _ => 0
  | d + 1, fs => (fs.map fun f => 1 + f.name.length + f.s.length + wtD d f.t).sum
theorem valR_len {sub : List PF → Oct} (f : PF) : (valR sub f).length ≤ 8 + f.s.length + (sub f.t).length := by
  unfold valR
  repeat' split
  all_goals simp [octsN_length]
  all_goals omega
theorem rowsR_len : ∀ (d : Nat) (fs : List PF), (rowsR d fs).length ≤ 16 * wtD d fs
  | 0, _ => Nat.zero_le _
  | d + 1, fs => by
    unfold rowsR wtD
    induction fs with
    | nil => simp
    | cons f r ih =>
      have h1 := valR_len (sub := rowsR d) f
      have h2 := rowsR_len d f.t
      simp only [List.flatMap_cons, List.length_append, List.map_cons, List.sum_cons]
      have : (rowR (rowsR d) f).length = 2 + f.name.length + (valR (rowsR d) f).length := by simp [rowR, octsN_length]; omega
      omega
theorem wtD_part {d : Nat} {fs : List PF} {f : PF} (h : f ∈ fs) : 1 + f.name.length + f.s.length + wtD d f.t ≤ wtD (d + 1) fs := by
  show _ ≤ (fs.map fun f => 1 + f.name.length + f.s.length + wtD d f.t).sum
  induction fs with
  | nil => cases h
  | cons x r ih =>
    simp only [List.map_cons, List.sum_cons]
    rcases List.mem_cons.1 h with rfl | h
    · omega
    · have := ih h; omega
theorem wtD_take {d : Nat} (fs : List PF) (i : Nat) : wtD d (fs.take i) ≤ wtD d fs := by
  cases d with
  | zero => simp [wtD]
  | succ d =>
    unfold wtD
    induction fs generalizing i with
    | nil => simp
    | cons x r ih =>
      cases i with
      | zero => simp
      | succ i => simp only [List.take_succ_cons, List.map_cons, List.sum_cons]; have := ih i; omega
theorem rowsR_take {d : Nat} {fs : List PF} {i : Nat} (h : i < fs.length) : rowsR (d + 1) (fs.take (i + 1)) = rowsR (d + 1) (fs.take i) ++ rowR (rowsR d) fs[i] := by
  unfold rowsR
  rw [List.take_succ_eq_append_getElem h, List.flatMap_append]
  simp
theorem formGo_mem {sub : List PF → Bool} : ∀ {fs : List PF} {seen : List Oct}, formGo sub fs seen = true → ∀ f ∈ fs, fieldOkP f = true ∧ (f.kind = 70 → sub f.t = true)
  | [], _, _, f, hf => by cases hf
  | x :: r, seen, h, f, hf => by
    unfold formGo at h
    simp only [Bool.and_eq_true, Bool.or_eq_true, bne_iff_ne, ne_eq] at h
    rcases List.mem_cons.1 hf with rfl | hf
    · exact ⟨h.1.1.1, fun e => h.1.1.2.resolve_left (fun n => n e)⟩
    · exact formGo_mem h.2 f hf
theorem fieldOk_len {f : PF} (h : fieldOkP f = true) : 1 ≤ f.name.length ∧ f.name.length ≤ 128 := by
  unfold fieldOkP at h
  simp only [Bool.and_eq_true, decide_eq_true_eq] at h
  exact h.1
theorem value_eq {d : Nat} (ih : ∀ fs, rowsP d fs = if formedP d fs = true ∧ (rowsR d fs).length ≤ 2000 then some (rowsR d fs) else none) {f : PF} (hn : 1 ≤ f.name.length ∧ f.name.length ≤ 128) :
    (fieldOkP f && (f.kind != 70 || formedP d f.t)) = true ∧ (valR (rowsR d) f).length ≤ 2000 → valueP (rowsP d) f = some (valR (rowsR d) f) := by
  intro ⟨h, hl⟩
  unfold fieldOkP at h
  rw [decide_eq_true hn] at h
  unfold valueP valR at *
  by_cases k1 : f.kind = 116
  · simp only [k1, if_pos] at h hl ⊢
    simp at h
    rw [if_pos ⟨h.2.1, h.2.2, h.1⟩]
    congr 1
    simp only [octsN, octN, oct8, nat64]
    congr 1
    apply UInt8.toNat_inj.1
    simp only [UInt8.toNat_ofNat']
    rcases h.1 with e | e <;> rw [e] <;> rfl
  simp only [if_neg k1] at h hl ⊢
  by_cases k2 : f.kind = 73
  · simp only [k2, if_pos] at h hl ⊢
    simp at h
    rw [if_pos ⟨h.2.2.1, h.2.2.2, by omega, by omega⟩]
  simp only [if_neg k2] at h hl ⊢
  by_cases k3 : f.kind = 108
  · simp only [k3, if_pos] at h hl ⊢
    simp at h
    rw [if_pos h]
  simp only [if_neg k3] at h hl ⊢
  by_cases k4 : f.kind = 83
  · simp only [k4, if_pos] at h hl ⊢
    simp at h
    rw [if_pos ⟨h.1, h.2, by simp [octsN_length] at hl; omega⟩]
  simp only [if_neg k4] at h hl ⊢
  by_cases k5 : f.kind = 70
  · simp only [k5, if_pos] at h hl ⊢
    simp at h
    rw [ih, if_pos ⟨h.2, by simp [octsN_length] at hl; omega⟩]
    simp only
    rw [if_pos h.1]
  simp only [if_neg k5] at h hl ⊢
  by_cases k6 : f.kind = 86
  · simp only [k6, if_pos] at h hl ⊢
    simp at h
    rw [if_pos h]
  · rw [if_neg k6] at h
    simp at h
theorem value_none {d : Nat} (ih : ∀ fs, rowsP d fs = if formedP d fs = true ∧ (rowsR d fs).length ≤ 2000 then some (rowsR d fs) else none) {f : PF} (hn : 1 ≤ f.name.length ∧ f.name.length ≤ 128)
    {b : Oct} (hv : valueP (rowsP d) f = some b) : (fieldOkP f && (f.kind != 70 || formedP d f.t)) = true ∧ b = valR (rowsR d) f := by
  unfold fieldOkP
  rw [decide_eq_true hn]
  unfold valueP at hv
  unfold valR
  by_cases k1 : f.kind = 116
  · simp only [k1, if_pos] at hv ⊢
    split at hv
    · rename_i g
      cases hv
      refine ⟨by simp [g], ?_⟩
      simp only [octsN, octN, oct8, nat64]
      congr 1
      apply UInt8.toNat_inj.1
      simp only [UInt8.toNat_ofNat']
      rcases g.2.2 with e | e <;> rw [e] <;> rfl
    · cases hv
  simp only [if_neg k1] at hv ⊢
  by_cases k2 : f.kind = 73
  · simp only [k2, if_pos] at hv ⊢
    split at hv
    · rename_i g
      cases hv
      exact ⟨by simp [g]; omega, rfl⟩
    · cases hv
  simp only [if_neg k2] at hv ⊢
  by_cases k3 : f.kind = 108
  · simp only [k3, if_pos] at hv ⊢
    split at hv
    · rename_i g
      cases hv
      exact ⟨by simp [g], rfl⟩
    · cases hv
  simp only [if_neg k3] at hv ⊢
  by_cases k4 : f.kind = 83
  · simp only [k4, if_pos] at hv ⊢
    split at hv
    · rename_i g
      cases hv
      exact ⟨by simp [g], rfl⟩
    · cases hv
  simp only [if_neg k4] at hv ⊢
  by_cases k5 : f.kind = 70
  · simp only [k5, if_pos] at hv ⊢
    rw [ih] at hv
    split at hv
    · rename_i b' g
      split at g
      · rename_i g2
        cases g
        split at hv
        · rename_i g3
          cases hv
          exact ⟨by simp [g2, g3], rfl⟩
        · cases hv
      · cases g
    · cases hv
  simp only [if_neg k5] at hv ⊢
  by_cases k6 : f.kind = 86
  · simp only [k6, if_pos] at hv ⊢
    split at hv
    · rename_i g
      cases hv
      exact ⟨by simp [g], by simp⟩
    · cases hv
  · rw [if_neg k6] at hv
    cases hv
theorem goP_eq {d : Nat} (ih : ∀ fs, rowsP d fs = if formedP d fs = true ∧ (rowsR d fs).length ≤ 2000 then some (rowsR d fs) else none) : ∀ (fs : List PF) (seen : List Oct) (out : Oct), out.length ≤ 2000 →
    goP (valueP (rowsP d)) fs seen out = if formGo (formedP d) fs seen = true ∧ (out ++ fs.flatMap (rowR (rowsR d))).length ≤ 2000 then some (out ++ fs.flatMap (rowR (rowsR d))) else none
  | [], seen, out, ho => by simp [goP, formGo, ho]
  | f :: r, seen, out, ho => by
    unfold goP formGo
    simp only [List.flatMap_cons]
    have er : ∀ x : Oct, UInt8.ofNat f.name.length :: f.name ++ f.kind :: x = octsN 1 f.name.length ++ f.name ++ [f.kind] ++ x := by
      intro x
      have : octsN 1 f.name.length = [UInt8.ofNat f.name.length] := by
        simp only [octsN, octN, Nat.pow_zero, Nat.div_one]
      rw [this]; simp
    cases hv : valueP (rowsP d) f with
    | none =>
      simp only
      rw [if_neg]
      rintro ⟨h1, h2⟩
      simp only [Bool.and_eq_true] at h1
      have hn := fieldOk_len h1.1.1.1
      have := value_eq ih hn ⟨by simp only [Bool.and_eq_true]; exact h1.1.1, by
        have : (valR (rowsR d) f).length ≤ (rowR (rowsR d) f).length := by simp [rowR]; omega
        simp only [List.length_append] at h2
        omega⟩
      rw [hv] at this
      cases this
    | some b =>
      simp only
      by_cases hn : 1 ≤ f.name.length ∧ f.name.length ≤ 128
      · obtain ⟨g1, rfl⟩ := value_none ih hn hv
        rw [er]
        have : octsN 1 f.name.length ++ f.name ++ [f.kind] ++ valR (rowsR d) f = rowR (rowsR d) f := rfl
        rw [this]
        by_cases hs : f.name ∈ seen
        · rw [if_pos (.inl hs), if_neg]
          rintro ⟨h1, h2⟩
          simp only [Bool.and_eq_true, decide_eq_true_eq] at h1
          exact h1.1.2 hs
        · rw [if_neg (by rintro (e | e | e); exact hs e; rw [e] at hn; simp at hn; omega)]
          by_cases hl : (out ++ rowR (rowsR d) f).length > 2000
          · rw [if_pos hl, if_neg]
            rintro ⟨h1, h2⟩
            simp only [List.length_append] at h2 hl
            omega
          · rw [if_neg hl, goP_eq ih r _ _ (by omega), List.append_assoc, g1, decide_eq_true hs]
            simp only [Bool.true_and]
      · rw [if_pos]
        · rw [if_neg]
          rintro ⟨h1, h2⟩
          simp only [Bool.and_eq_true] at h1
          exact hn (fieldOk_len h1.1.1.1)
        · by_cases e : f.name = []
          · exact .inr (.inl e)
          · have := List.length_pos_iff.2 e
            exact .inr (.inr (by omega))
theorem formGo_len {sub : List PF → Bool} {sr : List PF → Oct} : ∀ {fs : List PF} {seen : List Oct}, formGo sub fs seen = true → 3 * fs.length ≤ (fs.flatMap (rowR sr)).length
  | [], _, _ => by simp
  | f :: r, seen, h => by
    unfold formGo at h
    simp only [Bool.and_eq_true] at h
    have ih := formGo_len (sr := sr) h.2
    have := fieldOk_len h.1.1.1
    simp only [List.flatMap_cons, List.length_append, List.length_cons]
    have : 3 ≤ (rowR sr f).length := by simp [rowR, octsN_length]; omega
    omega
theorem rowsP_eq : ∀ (d : Nat) (fs : List PF), rowsP d fs = if formedP d fs = true ∧ (rowsR d fs).length ≤ 2000 then some (rowsR d fs) else none
  | 0, _ => by simp [rowsP, formedP]
  | d + 1, fs => by
    unfold rowsP
    have g := goP_eq (rowsP_eq d) fs [] [] (by decide)
    simp only [List.nil_append] at g
    rw [g]
    show _ = if formGo (formedP d) fs [] = true ∧ (fs.flatMap (rowR (rowsR d))).length ≤ 2000 then some (fs.flatMap (rowR (rowsR d))) else none
    by_cases hl : fs.length > 2000
    · rw [if_pos hl, if_neg]
      rintro ⟨h1, h2⟩
      have := formGo_len (sr := rowsR d) h1
      omega
    · rw [if_neg hl]
theorem tableP_eq (fs : List PF) : tableP fs = if tableOkP fs = true then some (rowsR 8 fs) else none := by
  unfold tableP tableOkP
  rw [rowsP_eq]
  simp only [Bool.and_eq_true, decide_eq_true_eq]
theorem tableOk_isSome (fs : List PF) : (tableP fs).isSome = tableOkP fs := by
  rw [tableP_eq]
  cases tableOkP fs <;> rfl
theorem wgtGo_ge (sub : List PF → Nat) : ∀ (fs : List PF) (n : Nat), n ≤ wgtGo sub fs n
  | [], n => Nat.le_refl _
  | f :: r, n => by
    unfold wgtGo
    split
    · have := wgtGo_ge sub r (n + 13 + f.name.length + min f.s.length 4000 + sub f.t); omega
    · exact Nat.le_refl _
theorem rows_wgt : ∀ (d : Nat) (fs : List PF), formedP d fs = true → wgtP d fs ≤ 1900 → (rowsR d fs).length ≤ wgtP d fs
  | 0, _, h, _ => by cases h
  | d + 1, fs, h, hw => by
    have hm := formGo_mem (show formGo (formedP d) fs [] = true from h)
    clear h
    unfold wgtP at *
    unfold rowsR
    have : ∀ (fs : List PF) (n : Nat), (∀ f ∈ fs, fieldOkP f = true ∧ (f.kind = 70 → formedP d f.t = true)) → wgtGo (wgtP d) fs n ≤ 1900 → n + (fs.flatMap (rowR (rowsR d))).length ≤ wgtGo (wgtP d) fs n := by
      intro fs
      induction fs with
      | nil => intro n _ _; simp [wgtGo]
      | cons f r ih =>
        intro n hm hw
        have hn : n ≤ 2000 := by have := wgtGo_ge (wgtP d) (f :: r) n; omega
        unfold wgtGo at hw ⊢
        rw [if_pos hn] at hw ⊢
        have i := ih _ (fun g hg => hm g (List.mem_cons_of_mem _ hg)) hw
        have ge := wgtGo_ge (wgtP d) r (n + 13 + f.name.length + min f.s.length 4000 + wgtP d f.t)
        simp only [List.flatMap_cons, List.length_append]
        have hf := hm f (List.mem_cons_self ..)
        have : (rowR (rowsR d) f).length ≤ 13 + f.name.length + min f.s.length 4000 + wgtP d f.t := by
          have : (valR (rowsR d) f).length ≤ 11 + min f.s.length 4000 + wgtP d f.t := by
            unfold valR
            by_cases k1 : f.kind = 116
            · rw [if_pos k1]; simp [octsN_length]; omega
            rw [if_neg k1]
            by_cases k2 : f.kind = 73
            · rw [if_pos k2]; simp [octsN_length]; omega
            rw [if_neg k2]
            by_cases k3 : f.kind = 108
            · rw [if_pos k3]; simp [octsN_length]; omega
            rw [if_neg k3]
            by_cases k4 : f.kind = 83
            · rw [if_pos k4]; simp [octsN_length]; omega
            rw [if_neg k4]
            by_cases k5 : f.kind = 70
            · rw [if_pos k5]
              have := rows_wgt d f.t (hf.2 k5) (by omega)
              simp [octsN_length]
              omega
            · rw [if_neg k5]; simp
          simp [rowR, octsN_length]
          omega
        omega
    have := this fs 0 hm hw
    omega
theorem tableOk_wgt (fs : List PF) : tableOkP fs = (formedP 8 fs && (decide (wgtP 8 fs ≤ 1900) || decide ((rowsR 8 fs).length ≤ 2000))) := by
  unfold tableOkP
  cases h : formedP 8 fs with
  | false => rfl
  | true =>
    simp only [Bool.true_and]
    by_cases hw : wgtP 8 fs ≤ 1900
    · rw [decide_eq_true hw, Bool.true_or, decide_eq_true]
      have := rows_wgt 8 fs h hw
      omega
    · rw [decide_eq_false hw, Bool.false_or]
end Go.Proofs.Ytjkiaeccjelklaa.Pr
end
section
set_option linter.unusedVariables false
set_option linter.unusedSimpArgs false
namespace Go.Proofs.Ytjkiaeccjelklaa.Pr
open Go Go.Lift Go.Proofs
def readP (ps : Oct → Option (List PF)) (k : UInt8) (s : RS) : Int × Oct × List PF × Bool × RS :=
  if k = 116 then (IntKind.i64.wrap (numN (takeP 1 s).1 : Nat), [], [], true, (takeP 1 s).2)
  else if k = 73 then (IntKind.i64.wrap (IntKind.i32.wrap (numN (takeP 4 s).1 : Nat)), [], [], true, (takeP 4 s).2)
  else if k = 108 then (IntKind.i64.wrap (numN (takeP 8 s).1 : Nat), [], [], true, (takeP 8 s).2)
  else if k = 83 then (0, (measP 4 s).1, [], true, (measP 4 s).2)
  else if k = 70 then (0, [], (ps (measP 4 s).1).getD [], (ps (measP 4 s).1).isSome, (measP 4 s).2)
  else (0, [], [], true, s)
def kindP (s : RS) : UInt8 := UInt8.ofNat (numN (takeP 1 s).1)
def loopP (ps : Oct → Option (List PF)) : Nat → RS → List PF → Option (List PF)
  | 0, _, _ => none
  | k + 1, s, out =>
    if s.1 = [] then some out
    else
      let a := measP 1 s
      let b := takeP 1 a.2
      let r := readP ps (kindP a.2) b.2
      if r.2.2.2.1 = false ∨ r.2.2.2.2.2 = true then none
      else loopP ps k r.2.2.2.2 (out ++ [PF.mk a.1 (kindP a.2) r.1 r.2.1 r.2.2.1])
def parseP : Nat → Oct → Option (List PF)
  | 0, _ => none
  | d + 1, b => if b.length > 2000 then none else loopP (parseP d) (b.length + 1) (b, false) []
theorem sl_field : SlT P T.sl_api_Field T.api_Field 5 72 [.string (mkS ([] : List UInt8)), .int .u8 0, .int .i64 0, .string (mkS ([] : List UInt8)), .slice none 0 0] := slT (by kernel_rfl) (by kernel_rfl)
theorem u_slf : P.underlying T.sl_api_Field = some (.slice T.api_Field) := by kernel_rfl
theorem bld_field' : (fun a b c d e : Value => Instr.fill (Lift.places P (P.underlying T.sl_api_Field)) (zrow (zcl P T.api_Field).toList 1 (P.cellsOf T.api_Field)).toArray [(0, .agg (List.toArray [a, b, c, d, e]))]) = fun a b c d e => some (List.toArray [a, b, c, d, e]) := by kernel_rfl
theorem bld_field (a b c d e : Value) : bldS P T.sl_api_Field T.api_Field 1 [(0, .agg (List.toArray [a, b, c, d, e]))] [a, b, c, d, e] := congrFun (congrFun (congrFun (congrFun (congrFun bld_field' a) b) c) d) e
section
variable {K : KT} {L R : List Asr} {h : Heap}
theorem owtApp {s t : SV} {fs : List PF} {f : PF} {B1 : Nat → Prop} {a : Addr} (S : St (OwT s fs :: Bx a (fcells (f, t)) :: Tb B1 t f.t :: L) h) (hl : fs.length < 1000000) (hK : ∀ p l c h', St (OwT (p, l, c) (fs ++ [f]) :: L) h' → K (.slice p l c) h') :
    SemH P (Builtin.append_ #[T.sl_api_Field, T.sl_api_Field] T.sl_api_Field #[.slice s.1 s.2.1 s.2.2, .slice (some a) 1 1]) K h := by
  have hlen := owtLen S
  obtain ⟨⟨ts, B⟩, S⟩ := S.ex
  have S := S.split
  simp only at S
  have sa : Sl 5 h (some a) 1 (fcells (f, t)) := ⟨rfl, (S.p2.mem).1⟩
  refine S.app sl_field rfl u_slf (fun k e => by cases e) (Src.slice (n := 1) (c := 1) sa (by simp [fcells, one, SV.v])) (by omega) (by omega) fun p c h' S' => hK p _ c h' (St.ex' (ts ++ [t], fun b => B b ∨ B1 b) ?_)
  have S1 : St (Tbs B ts fs :: Tb B1 t f.t :: Ow 5 (p, s.2.1 + 1, c) ((fs.zip ts).flatMap fcells ++ fcells (f, t)) :: L) h' := S'.to
  obtain ⟨h2, d, h3⟩ := (S1.sh (List.mem_cons_self ..)).1
  obtain ⟨h4, d1, h5⟩ := (S1.p1.sh (List.mem_cons_self ..)).1
  have e : ((fs ++ [f]).zip (ts ++ [t])).flatMap fcells = (fs.zip ts).flatMap fcells ++ fcells (f, t) := by rw [List.zip_append h2.symm]; simp
  refine St.join (St.p1 ?_)
  rw [e]
  refine S1.toSh sh_dom sh_dom (fun b hb => hb) (Tbs.lc _ _ _) ⟨by simp [h2], d + d1, fun i f' t' e1 e2 => ?_⟩
  rw [List.getElem?_append] at e1 e2
  rw [h2] at e2
  split at e1
  · rename_i hlt
    rw [if_pos hlt] at e2
    exact ⟨(h3 i f' t' e1 e2).1, ((h3 i f' t' e1 e2).2.mono fun _ x => .inl x).deep d1⟩
  · rename_i hlt
    rw [if_neg hlt] at e2
    obtain rfl : i = fs.length := by
      have := (List.getElem?_eq_some_iff.1 e1).1
      simp at this
      omega
    simp only [Nat.sub_self, List.getElem?_cons_zero, Option.some.injEq] at e1 e2
    subst e1; subst e2
    rw [Nat.add_comm d d1]
    exact ⟨h4, (h5.mono fun _ x => .inr x).deep d⟩
def ParseC (d : Nat) : Prop := ∀ {K : KT} {L : List Asr} {h : Heap} {s : SV} {bs : Oct} (S : St L h) [In (fun b => Im 1 s (u8s b)) L bs] (hb : bs.length < 1099511627776)
  (hK : ∀ p l c h' B, St (Tb B (p, l, c) ((parseP d bs).getD []) :: L) h' → K (.tuple #[.slice p l c, .bool (parseP d bs).isSome]) h'),
  CallsH P F.qav [.slice s.1 s.2.1 s.2.2, .int .i64 (9 - (d : Int))] K h
abbrev fbox (name : Oct) (k : UInt8) (n : Int) (s : Oct) (t : SV) : List Value := [.string (mkS name), .int .u8 (k.toNat : Int), .int .i64 n, .string (mkS s), t.v]
theorem read_of {d : Nat} (hp : ParseC d) (hd : d ≤ 7) {r f : Addr} {s : RS} {name : Oct} {k : UInt8} (S : St (RdA r s :: Bx f (fbox name k 0 [] (none, 0, 0)) :: L) h)
    (hK : ∀ h' B t, St (RdA r (readP (parseP d) k s).2.2.2.2 :: Bx f (fbox name k (readP (parseP d) k s).1 (readP (parseP d) k s).2.1 t) :: Tb B t (readP (parseP d) k s).2.2.1 :: L) h' → K (.bool (readP (parseP d) k s).2.2.2.1) h') :
    CallsH P F.qcd [.pointer (some r), .pointer (some f), .int .i64 (8 - (d : Int))] K h := by
  refine qcd.ok ?_
  unfold qcd.p0
  have eb : ∀ n : UInt8, (((k.toNat : Nat) : Int) == (n.toNat : Int)) = decide (k = n) := fun n => by
    rw [Bool.eq_iff_iff, beq_iff_eq, decide_eq_true_eq]
    exact ⟨fun e => UInt8.toNat_inj.1 (by omega), fun e => by rw [e]⟩
  have e116 := eb 116
  have e73 := eb 73
  have e108 := eb 108
  have e83 := eb 83
  have e70 := eb 70
  simp only [show ((116 : UInt8).toNat : Int) = 116 from rfl, show ((73 : UInt8).toNat : Int) = 73 from rfl, show ((108 : UInt8).toNat : Int) = 108 from rfl, show ((83 : UInt8).toNat : Int) = 83 from rfl, show ((70 : UInt8).toNat : Int) = 70 from rfl] at e116 e73 e108 e83 e70
  simp only [someE, rdN (S.rc f 1 rfl), bd]
  rw [e116, e73, e108, e83, e70]
  unfold readP at hK
  by_cases k1 : k = 116
  · simp only [if_pos k1] at hK
    refine ifT (by simp [k1]) (rintS (n := 1) S (by omega) (by omega) fun h1 S1 => ⟨_, rfl, S1.put1 f 2 (by simp [fbox]) rfl fun h2 S2 => hK h2 (fun _ => False) (none, 0, 0) ?_⟩)
    simp only [fbox, List.set_cons_succ, List.set_cons_zero] at S2
    exact (tbNil 0 S2).to
  simp only [if_neg k1] at hK
  refine ifF (by simp [k1]) ?_
  by_cases k2 : k = 73
  · simp only [if_pos k2] at hK
    refine ifT (by simp [k2]) (rintS (n := 4) S (by omega) (by omega) fun h1 S1 => ⟨_, rfl, S1.put1 f 2 (by simp [fbox]) rfl fun h2 S2 => hK h2 (fun _ => False) (none, 0, 0) ?_⟩)
    simp only [fbox, List.set_cons_succ, List.set_cons_zero] at S2
    exact (tbNil 0 S2).to
  simp only [if_neg k2] at hK
  refine ifF (by simp [k2]) ?_
  by_cases k3 : k = 108
  · simp only [if_pos k3] at hK
    refine ifT (by simp [k3]) (rintS (n := 8) S (by omega) (by omega) fun h1 S1 => ⟨_, rfl, S1.put1 f 2 (by simp [fbox]) rfl fun h2 S2 => hK h2 (fun _ => False) (none, 0, 0) ?_⟩)
    simp only [fbox, List.set_cons_succ, List.set_cons_zero] at S2
    exact (tbNil 0 S2).to
  simp only [if_neg k3] at hK
  refine ifF (by simp [k3]) ?_
  by_cases k4 : k = 83
  · simp only [if_pos k4] at hK
    refine ifT (by simp [k4]) (rlongS S fun p l c h1 S1 => ⟨_, _, _, rfl, str_ok u_sl u_u8 u_str (S1.osl 1 (p, l, c)) ⟨_, rfl, S1.put1 f 3 (by simp [fbox]) rfl fun h2 S2 => hK h2 (fun _ => False) (none, 0, 0) ?_⟩⟩)
    simp only [fbox, List.set_cons_succ, List.set_cons_zero] at S2
    exact (tbNil 0 S2).to
  simp only [if_neg k4] at hK
  refine ifF (by simp [k4]) ?_
  by_cases k5 : k = 70
  · simp only [if_pos k5] at hK
    have hlen : (measP 4 s).1.length < 1099511627776 := by
      have := RdA.len S
      unfold measP
      split
      · simp
      · split
        · simp
        · simp; omega
    refine ifT (by simp [k5]) (rlongS S fun p l c h1 S1 => ⟨_, _, _, rfl, ?_⟩)
    have ed : IntKind.i64.wrap (8 - (d : Int) + 1) = 9 - (d : Int) := by rw [wrapI (by omega) (by omega)]; omega
    rw [ed]
    refine hp (s := (p, l, c)) (bs := (measP 4 s).1) (S1.fz 1 (p, l, c)) hlen fun p2 l2 c2 h2 B S2 => ⟨_, _, _, _, rfl, S2.put1 f 4 (by simp [fbox]) rfl fun h3 S3 => hK h3 B (p2, l2, c2) ?_⟩
    simp only [fbox, List.set_cons_succ, List.set_cons_zero] at S3
    exact S3.to
  simp only [if_neg k5] at hK
  exact ifF (by simp [k5]) (hK h (fun _ => False) (none, 0, 0) (tbNil 0 S).to)
theorem measP_le (n : Nat) (s : RS) : (measP n s).1.length ≤ s.1.length ∧ (measP n s).2.1.length ≤ s.1.length := by
  unfold measP
  split
  · simp
  · split
    · simp
    · simp; omega
theorem takeP_le (n : Nat) (s : RS) : (takeP n s).1.length ≤ s.1.length ∧ (takeP n s).2.1.length ≤ s.1.length := by
  unfold takeP
  split
  · simp
  · simp; omega
theorem readP_le (ps : Oct → Option (List PF)) (k : UInt8) (s : RS) : (readP ps k s).2.2.2.2.1.length ≤ s.1.length := by
  have h1 := takeP_le 1 s
  have h4 := takeP_le 4 s
  have h8 := takeP_le 8 s
  have m4 := measP_le 4 s
  unfold readP
  repeat' (first | omega | split)
  all_goals simp only
  all_goals omega
theorem measP_lt {s : RS} (h : s.1 ≠ []) : (measP 1 s).2.1.length < s.1.length := by
  have := List.length_pos_iff.2 h
  unfold measP
  split
  · simpa
  · split
    · simpa
    · simp; omega
theorem loopP_fuel (ps : Oct → Option (List PF)) : ∀ (k k' : Nat) (st : RS) (out : List PF), st.1.length < k → st.1.length < k' → loopP ps k st out = loopP ps k' st out
  | 0, _, _, _, h, _ => absurd h (Nat.not_lt_zero _)
  | _, 0, _, _, _, h => absurd h (Nat.not_lt_zero _)
  | k + 1, k' + 1, st, out, h1, h2 => by
    unfold loopP
    by_cases he : st.1 = []
    · rw [if_pos he, if_pos he]
    · rw [if_neg he, if_neg he]
      have hlt := measP_lt he
      have hk := takeP_le 1 (measP 1 st).2
      have hrd := readP_le ps (kindP (measP 1 st).2) (takeP 1 (measP 1 st).2).2
      simp only
      split
      · rfl
      · exact loopP_fuel ps k k' _ _ (by omega) (by omega)
theorem parse_loop {d : Nat} (hp : ParseC d) (hd : d ≤ 7) {r : Addr} {res : Option (List PF)}
    (hK : ∀ p l c h' B, St (Tb B (p, l, c) (res.getD []) :: L) h' → K (.tuple #[.slice p l c, .bool res.isSome]) h') :
    ∀ (fuel : Nat) (st : RS) (s : SV) (out : List PF) (h : Heap), st.1.length < fuel → out.length + st.1.length < 1000000 → (∀ k, st.1.length < k → loopP (parseP d) k st out = res) → St (OwT s out :: RdA r st :: L) h →
      qav.L2 K fuel (8 - (d : Int)) s.1 s.2.1 s.2.2 (some r) h
  | 0, _, _, _, _, hf, _, _, _ => absurd hf (Nat.not_lt_zero _)
  | fuel + 1, st, s, out, h, hf, ho, hg, S => by
    unfold qav.L2
    refine leftS S ⟨_, rfl, ?_⟩
    have fail : res = none → ∀ h', St L h' → K (.tuple #[.slice none 0 0, .bool false]) h' := by
      intro e h' S'
      subst e
      exact hK none 0 0 h' _ (tbNil 0 S')
    by_cases he : st.1 = []
    · refine ifF (by simp [he]) ?_
      have := hg (fuel + 1) hf
      unfold loopP at this
      rw [if_pos he] at this
      obtain ⟨B, S'⟩ := owtTb S
      subst this
      have S2 : St (Tb B s out :: L) h := S'.to
      exact hK s.1 s.2.1 s.2.2 h B S2
    · have hpos := List.length_pos_iff.2 he
      refine ifT (by simp; omega) ?_
      have hlt := measP_lt he
      have hk := takeP_le 1 (measP 1 st).2
      have hrd := readP_le (parseP d) (kindP (measP 1 st).2) (takeP 1 (measP 1 st).2).2
      have hg' : ∀ k, st.1.length ≤ k → (if (readP (parseP d) (kindP (measP 1 st).2) (takeP 1 (measP 1 st).2).2).2.2.2.1 = false ∨ (readP (parseP d) (kindP (measP 1 st).2) (takeP 1 (measP 1 st).2).2).2.2.2.2.2 = true then none
          else loopP (parseP d) k (readP (parseP d) (kindP (measP 1 st).2) (takeP 1 (measP 1 st).2).2).2.2.2.2 (out ++ [PF.mk (measP 1 st).1 (kindP (measP 1 st).2) (readP (parseP d) (kindP (measP 1 st).2) (takeP 1 (measP 1 st).2).2).1
            (readP (parseP d) (kindP (measP 1 st).2) (takeP 1 (measP 1 st).2).2).2.1 (readP (parseP d) (kindP (measP 1 st).2) (takeP 1 (measP 1 st).2).2).2.2.1])) = res := by
        intro k hk
        have := hg (k + 1) (by omega)
        unfold loopP at this
        rw [if_neg he] at this
        exact this
      refine rshortS S fun h1 S1 => ⟨_, rfl, ?_⟩
      simp only [bd]
      have S2 := S1.al [.string (mkS ([] : List UInt8)), .int .u8 0, .int .i64 0, .string (mkS ([] : List UInt8)), .slice none 0 0] T.api_Field
      refine ⟨rfl, S2.putA (top h1) rfl (by simp [one]) fun h2 S3 => ?_⟩
      clear S2
      generalize top h1 = a at *
      refine rintS (n := 1) S3 (by omega) (by omega) fun h3 S4 => ⟨_, rfl, ?_⟩
      have ek : IntKind.u8.wrap ((numN (takeP 1 (measP 1 st).2).1 : Nat) : Int) = (((kindP (measP 1 st).2).toNat : Nat) : Int) := by
        unfold kindP
        rw [IntKind.wrap_u8', UInt8.toNat_ofNat']
        omega
      rw [ek]
      refine S4.put1 a 1 (by simp) rfl fun h4 S5 => ?_
      simp only [List.set_cons_succ, List.set_cons_zero] at S5
      have S6 : St (RdA r (takeP 1 (measP 1 st).2).2 :: Bx a (fbox (measP 1 st).1 (kindP (measP 1 st).2) 0 [] (none, 0, 0)) :: OwT s out :: L) h4 := S5.to
      refine read_of hp hd S6 fun h5 B t S7 => ⟨_, rfl, ?_⟩
      generalize readP (parseP d) (kindP (measP 1 st).2) (takeP 1 (measP 1 st).2).2 = rd at *
      obtain ⟨n, str, tfs, ok, st'⟩ := rd
      simp only at S7 hg' hrd ⊢
      cases ok with
      | false =>
        refine ifT' rfl ?_
        unfold qav.j3
        refine ifT rfl (fail ?_ h5 S7.to)
        have := hg' st.1.length (Nat.le_refl _)
        simpa using this.symm
      | true =>
        refine ifF' rfl ?_
        refine okS S7 ⟨_, rfl, ?_⟩
        unfold qav.j3
        cases hbad : st'.2 with
        | true =>
          refine ifT (by simp) (fail ?_ h5 S7.to)
          have := hg' st.1.length (Nat.le_refl _)
          simpa [hbad] using this.symm
        | false =>
          refine ifF (by simp) ?_
          refine ⟨_, S7.rall a 5 rfl, _, bld_field _ _ _ _ _, ?_⟩
          simp only [bd]
          have S8 := S7.al (fcells (PF.mk (measP 1 st).1 (kindP (measP 1 st).2) n str tfs, t)) T.api_Field
          have S9 : St (OwT s out :: Bx (top h5) (fcells (PF.mk (measP 1 st).1 (kindP (measP 1 st).2) n str tfs, t)) :: Tb B t tfs :: RdA r st' :: L) _ := S8.to
          refine owtApp S9 (by omega) fun p l c h6 S10 => ⟨_, _, _, rfl, ?_⟩
          refine parse_loop hp hd hK fuel st' (p, l, c) _ h6 (by omega) (by simp; omega) (fun k hk => ?_) S10
          have := hg' st.1.length (Nat.le_refl _)
          rw [if_neg (by simp [hbad])] at this
          rw [← this]
          exact loopP_fuel _ k st.1.length st' _ hk (by omega)
theorem parse_spec : ∀ d : Nat, d ≤ 8 → ParseC d
  | 0, _ => by
    intro S _ hb hK; rename_i K L h s bs _ _
    refine qav.ok ?_
    unfold qav.p0 qav.j1
    refine ifT' (by decide) (ifT rfl ?_)
    exact hK none 0 0 h _ (tbNil 0 S)
  | d + 1, hd => by
    intro S _ hb hK; rename_i K L h s bs _
    have hp : ParseC d := parse_spec d (by omega)
    have hl := Sl.len (isl8 S (s := s) (bs := bs)).1
    refine qav.ok ?_
    unfold qav.p0 qav.j1
    have ed : 9 - ((d + 1 : Nat) : Int) = 8 - (d : Int) := by omega
    rw [ed]
    refine ifF' (decide_eq_false (by omega)) ?_
    unfold parseP at hK
    by_cases hg : bs.length > 2000
    · rw [if_pos hg] at hK
      exact ifT (decide_eq_true (by omega)) (hK none 0 0 h _ (tbNil 0 S))
    · rw [if_neg hg] at hK
      refine ifF (decide_eq_false (by omega)) ?_
      refine fromS S hb fun h1 S1 => ⟨_, rfl, bs.length + 1, ?_⟩
      exact parse_loop hp (by omega) hK _ (bs, false) (none, 0, 0) [] h1 (by simp) (by simp; omega) (fun k hk => loopP_fuel _ k _ _ _ hk (by simp)) (owtNil S1)
def tparseP (b : Oct) : Option (List PF) := match parseP 8 b with
  | some l => if (tableP l).isSome then some l else none
  | none => none
def smallF (f : PF) : Prop := f.name.length < 1099511627776 ∧ f.s.length < 1099511627776 ∧ ∀ e, smallP e f.t
theorem smallP_of {l : List PF} (h : ∀ f ∈ l, smallF f) : ∀ e, smallP e l
  | 0 => trivial
  | e + 1 => fun f hf => ⟨(h f hf).1, (h f hf).2.1, (h f hf).2.2 e⟩
theorem readP_small {ps : Oct → Option (List PF)} (hps : ∀ b l, ps b = some l → b.length < 1099511627776 → ∀ e, smallP e l) (k : UInt8) (s : RS) (hs : s.1.length < 1099511627776) :
    (readP ps k s).2.1.length < 1099511627776 ∧ ∀ e, smallP e (readP ps k s).2.2.1 := by
  have m4 := measP_le 4 s
  have nil : ∀ e, smallP e [] := fun e => smallP_of (by simp) e
  unfold readP
  split
  · exact ⟨by simp, nil⟩
  split
  · exact ⟨by simp, nil⟩
  split
  · exact ⟨by simp, nil⟩
  split
  · exact ⟨by simp only; omega, nil⟩
  split
  · refine ⟨by simp, ?_⟩
    cases hp : ps (measP 4 s).1 with
    | none => exact nil
    | some l => exact hps _ _ hp (by omega)
  · exact ⟨by simp, nil⟩
theorem loopP_small {ps : Oct → Option (List PF)} (hps : ∀ b l, ps b = some l → b.length < 1099511627776 → ∀ e, smallP e l) : ∀ (k : Nat) (st : RS) (out l : List PF), loopP ps k st out = some l → st.1.length < 1099511627776 → (∀ f ∈ out, smallF f) → ∀ f ∈ l, smallF f
  | 0, _, _, _, h, _, _ => by cases h
  | k + 1, st, out, l, h, hs, ho => by
    unfold loopP at h
    split at h
    · cases h; exact ho
    · simp only at h
      split at h
      · cases h
      · have m1 := measP_le 1 st
        have t1 := takeP_le 1 (measP 1 st).2
        have r1 := readP_le ps (kindP (measP 1 st).2) (takeP 1 (measP 1 st).2).2
        have r2 := readP_small hps (kindP (measP 1 st).2) (takeP 1 (measP 1 st).2).2 (by omega)
        refine loopP_small hps k _ _ l h (by omega) fun f hf => ?_
        rcases List.mem_append.1 hf with hf | hf
        · exact ho f hf
        · rw [List.mem_singleton] at hf
          subst hf
          exact ⟨by show (measP 1 st).1.length < _; omega, r2.1, r2.2⟩
theorem parseP_small : ∀ (d : Nat) (b : Oct) (l : List PF), parseP d b = some l → b.length < 1099511627776 → ∀ e, smallP e l
  | 0, _, _, h, _ => by cases h
  | d + 1, b, l, h, hb => by
    unfold parseP at h
    split at h
    · cases h
    · exact smallP_of (loopP_small (parseP_small d) _ _ _ _ h hb (by simp))
theorem tparseS {s : SV} {bs : Oct} (S : St L h) [In (fun b => Im 1 s (u8s b)) L bs] (hb : bs.length < 1099511627776)
    (hK : ∀ p l c h' B, St (Tb B (p, l, c) ((tparseP bs).getD []) :: L) h' → K (.tuple #[.slice p l c, .bool (tparseP bs).isSome]) h') : CallsH P F.qca [.slice s.1 s.2.1 s.2.2] K h := by
  refine qca.ok ?_
  unfold qca.p0
  have hp : ParseC 8 := parse_spec 8 (by omega)
  unfold tparseP at hK
  refine hp S hb fun p l c h1 B S1 => ⟨_, _, _, _, rfl, ?_⟩
  cases e : parseP 8 bs with
  | none =>
    rw [e] at hK S1
    exact ifT' rfl (ifT rfl (hK none 0 0 h1 _ (tbNil 0 S1.tl)))
  | some fs =>
    rw [e] at hK S1
    refine ifF' rfl (tokS (B := B) (t := (p, l, c)) S1 (parseP_small 8 bs fs e hb 8) fun h2 S2 => ⟨_, rfl, ?_⟩)
    cases e2 : (tableP fs).isSome with
    | false =>
      simp only [e2] at hK
      exact ifT rfl (hK none 0 0 h2 _ (tbNil 0 S2.tl))
    | true =>
      simp only [e2] at hK
      exact ifF rfl (hK p l c h2 B S2)
end
end Go.Proofs.Ytjkiaeccjelklaa.Pr
end
section
set_option linter.unusedVariables false
set_option linter.unusedSimpArgs false
namespace Go.Proofs.Ytjkiaeccjelklaa.Pr
open Go Go.Lift Go.Proofs
def knownK (k : UInt8) : Prop := k = 116 ∨ k = 73 ∨ k = 108 ∨ k = 83 ∨ k = 70 ∨ k = 86
instance (k : UInt8) : Decidable (knownK k) := by unfold knownK; infer_instance
def loopD (ps : Oct → Option (List PF)) : Nat → Oct → List PF → Option (List PF)
  | 0, _, _ => none
  | k + 1, s, out =>
    if s = [] then some out
    else
      let a := measP 1 (s, false)
      let b := takeP 1 a.2
      if b.2.2 = true ∨ ¬ knownK (kindP a.2) then none
      else
        let r := readP ps (kindP a.2) b.2
        if r.2.2.2.1 = false ∨ r.2.2.2.2.2 = true then none
        else loopD ps k r.2.2.2.2.1 (out ++ [PF.mk a.1 (kindP a.2) r.1 r.2.1 r.2.2.1])
def docP : Nat → Oct → Option (List PF)
  | 0, b => if b = [] then some [] else none
  | d + 1, b => loopD (docP d) (b.length + 1) b []
def goodF (d : Nat) (f : PF) : Prop := knownK f.kind ∧ (f.kind = 70 → formedP d f.t = true)
theorem formed_good {d : Nat} {fs : List PF} (h : formedP (d + 1) fs = true) : ∀ f ∈ fs, goodF d f := by
  have gen : ∀ (fs : List PF) (seen : List Oct), formGo (formedP d) fs seen = true → ∀ f ∈ fs, goodF d f := by
    intro fs
    induction fs with
    | nil => intro _ _ f hf; cases hf
    | cons x r ih =>
      intro seen h f hf
      unfold formGo at h
      simp only [Bool.and_eq_true] at h
      rcases List.mem_cons.1 hf with rfl | hf
      · refine ⟨?_, fun k => ?_⟩
        · have ok := h.1.1.1
          unfold fieldOkP at ok
          simp only [Bool.and_eq_true, decide_eq_true_eq] at ok
          have ok := ok.2
          unfold knownK
          by_cases k1 : f.kind = 116
          · exact .inl k1
          by_cases k2 : f.kind = 73
          · exact .inr (.inl k2)
          by_cases k3 : f.kind = 108
          · exact .inr (.inr (.inl k3))
          by_cases k4 : f.kind = 83
          · exact .inr (.inr (.inr (.inl k4)))
          by_cases k5 : f.kind = 70
          · exact .inr (.inr (.inr (.inr (.inl k5))))
          by_cases k6 : f.kind = 86
          · exact .inr (.inr (.inr (.inr (.inr k6))))
          simp only [k1, k2, k3, k4, k5, k6, if_false] at ok
          cases ok
        · have := h.1.1.2
          rw [k] at this
          simpa using this
      · exact ih _ h.2 f hf
  exact gen fs [] h
theorem loopP_pre {ps : Oct → Option (List PF)} : ∀ (k : Nat) (s : RS) (out l : List PF), loopP ps k s out = some l → ∃ l', l = out ++ l'
  | 0, _, _, _, h => by unfold loopP at h; cases h
  | k + 1, s, out, l, h => by
    unfold loopP at h
    split at h
    · cases h; exact ⟨[], by simp⟩
    · simp only at h
      split at h
      · cases h
      · obtain ⟨l', rfl⟩ := loopP_pre k _ _ _ h
        exact ⟨_, List.append_assoc ..⟩
theorem loopD_pre {ps : Oct → Option (List PF)} : ∀ (k : Nat) (s : Oct) (out l : List PF), loopD ps k s out = some l → ∃ l', l = out ++ l'
  | 0, _, _, _, h => by unfold loopD at h; cases h
  | k + 1, s, out, l, h => by
    unfold loopD at h
    split at h
    · cases h; exact ⟨[], by simp⟩
    · simp only at h
      split at h
      · cases h
      · split at h
        · cases h
        · obtain ⟨l', rfl⟩ := loopD_pre k _ _ _ h
          exact ⟨_, List.append_assoc ..⟩
theorem takeP_lenD (n : Nat) (s : RS) : (takeP n s).2.1.length ≤ s.1.length := by
  unfold takeP
  split
  · simp
  · simp
theorem measP_lenD (n : Nat) (s : RS) : (measP n s).1.length ≤ s.1.length ∧ (measP n s).2.1.length ≤ s.1.length := by
  unfold measP
  split
  · simp
  · split
    · simp
    · simp; omega
theorem readP_len (ps : Oct → Option (List PF)) (k : UInt8) (s : RS) : (readP ps k s).2.2.2.2.1.length ≤ s.1.length := by
  unfold readP
  repeat' split
  all_goals first
    | exact takeP_lenD _ _
    | exact (measP_lenD _ _).2
    | exact Nat.le_refl _
theorem readP_badD (ps : Oct → Option (List PF)) (k : UInt8) (s : Oct) : (readP ps k (s, true)).2.2.2.2.2 = true := by
  unfold readP
  repeat' split
  all_goals simp [takeP, measP]
theorem readP_two {p1 p2 : Oct → Option (List PF)} {k : UInt8} {s : RS} (h : k = 70 → p1 (measP 4 s).1 = p2 (measP 4 s).1) : readP p1 k s = readP p2 k s := by
  unfold readP
  by_cases k5 : k = 70
  · rw [h k5]
  · simp only [k5, if_false]
def Agree (d : Nat) (p1 p2 : Oct → Option (List PF)) : Prop := ∀ (b : Oct) (t : List PF), b.length ≤ 2000 → formedP d t = true → (p1 b = some t ↔ p2 b = some t)
theorem loop_two {d : Nat} {p1 p2 : Oct → Option (List PF)} (ag : Agree d p1 p2) : ∀ (k : Nat) (s : Oct) (out l : List PF), s.length ≤ 2000 → (∀ f ∈ l, goodF d f) → (loopP p1 k (s, false) out = some l ↔ loopD p2 k s out = some l)
  | 0, _, _, _, _, _ => by unfold loopP loopD; simp
  | k + 1, s, out, l, hs, hl => by
    unfold loopP loopD
    by_cases s0 : s = []
    · subst s0; simp
    simp only [s0, if_false]
    have l1 := measP_lenD 1 (s, false)
    generalize hA : measP 1 (s, false) = A at *
    obtain ⟨a, s1⟩ := A
    simp only at l1 ⊢
    have l2 := takeP_lenD 1 s1
    generalize hB : takeP 1 s1 = B at *
    obtain ⟨b, s2, bad⟩ := B
    simp only at l2 ⊢
    cases bad with
    | true =>
      have : (readP p1 (kindP s1) (s2, true)).2.2.2.2.2 = true := readP_badD _ _ _
      rw [if_pos (.inr this), if_pos (.inl rfl)]
    | false =>
      have l3 := measP_lenD 4 (s2, false)
      -- the field as it is read by the one and by the other
      have rest : ∀ (p : Oct → Option (List PF)), (readP p (kindP s1) (s2, false)).2.2.2.2.1.length ≤ 2000 := fun p => by
        have := readP_len p (kindP s1) (s2, false)
        simp only at this
        omega
      have r70 : kindP s1 = 70 → ∀ p : Oct → Option (List PF), readP p (kindP s1) (s2, false) = (0, [], (p (measP 4 (s2, false)).1).getD [], (p (measP 4 (s2, false)).1).isSome, (measP 4 (s2, false)).2) := by
        intro k5 p
        unfold readP
        rw [k5]; rfl
      have same : (∀ f ∈ [PF.mk a (kindP s1) (readP p1 (kindP s1) (s2, false)).1 (readP p1 (kindP s1) (s2, false)).2.1 (readP p1 (kindP s1) (s2, false)).2.2.1], f ∈ l) → (readP p1 (kindP s1) (s2, false)).2.2.2.1 = true → readP p1 (kindP s1) (s2, false) = readP p2 (kindP s1) (s2, false) := by
        intro hm ok
        refine readP_two fun k5 => ?_
        rw [r70 k5] at hm ok
        simp only at hm ok
        obtain ⟨t, ht⟩ := Option.isSome_iff_exists.1 ok
        have g := (hl _ (hm _ (List.mem_singleton.2 rfl))).2 k5
        rw [ht] at g
        rw [ht, (ag _ t (by simp only at l3; omega) g).1 ht]
      have same2 : (∀ f ∈ [PF.mk a (kindP s1) (readP p2 (kindP s1) (s2, false)).1 (readP p2 (kindP s1) (s2, false)).2.1 (readP p2 (kindP s1) (s2, false)).2.2.1], f ∈ l) → (readP p2 (kindP s1) (s2, false)).2.2.2.1 = true → readP p1 (kindP s1) (s2, false) = readP p2 (kindP s1) (s2, false) := by
        intro hm ok
        refine readP_two fun k5 => ?_
        rw [r70 k5] at hm ok
        simp only at hm ok
        obtain ⟨t, ht⟩ := Option.isSome_iff_exists.1 ok
        have g := (hl _ (hm _ (List.mem_singleton.2 rfl))).2 k5
        rw [ht] at g
        rw [ht, (ag _ t (by simp only at l3; omega) g).2 ht]
      constructor
      · intro h
        split at h
        · cases h
        · rename_i c
          simp only [not_or, Bool.not_eq_false, Bool.not_eq_true] at c
          have h0 := h
          generalize hr : (readP p1 (kindP s1) (s2, false)).2.2.2.2 = q at h c
          obtain ⟨q, qb⟩ := q
          simp only at c
          obtain ⟨c1, rfl⟩ := c
          obtain ⟨l', e⟩ := loopP_pre _ _ _ _ h
          have mem : ∀ f ∈ [PF.mk a (kindP s1) (readP p1 (kindP s1) (s2, false)).1 (readP p1 (kindP s1) (s2, false)).2.1 (readP p1 (kindP s1) (s2, false)).2.2.1], f ∈ l := by
            intro f hf
            rw [e]
            exact List.mem_append_left _ (List.mem_append_right _ hf)
          have kn := (hl _ (mem _ (List.mem_singleton.2 rfl))).1
          have eq := same mem c1
          rw [if_neg (by rintro (x | x); cases x; exact x kn), ← eq]
          rw [if_neg (by rw [c1, hr]; simp), hr]
          refine (loop_two ag k q _ l ?_ hl).1 h
          have := rest p1
          rw [hr] at this
          exact this
      · intro h
        split at h
        · cases h
        · rename_i c0
          split at h
          · cases h
          · rename_i c
            simp only [not_or, Bool.not_eq_false, Bool.not_eq_true] at c
            generalize hr : (readP p2 (kindP s1) (s2, false)).2.2.2.2 = q at h c
            obtain ⟨q, qb⟩ := q
            simp only at c
            obtain ⟨c1, rfl⟩ := c
            obtain ⟨l', e⟩ := loopD_pre _ _ _ _ h
            have mem : ∀ f ∈ [PF.mk a (kindP s1) (readP p2 (kindP s1) (s2, false)).1 (readP p2 (kindP s1) (s2, false)).2.1 (readP p2 (kindP s1) (s2, false)).2.2.1], f ∈ l := by
              intro f hf
              rw [e]
              exact List.mem_append_left _ (List.mem_append_right _ hf)
            have eq := same2 mem c1
            rw [eq]
            rw [if_neg (by rw [c1, hr]; simp), hr]
            refine (loop_two ag k q _ l ?_ hl).2 h
            have := rest p2
            rw [hr] at this
            exact this
theorem doc_two : ∀ d : Nat, Agree d (parseP d) (docP d)
  | 0 => fun b t hb h => by cases h
  | d + 1 => fun b t hb h => by
    unfold parseP docP
    rw [if_neg (by omega)]
    exact loop_two (doc_two d) _ b [] t hb (formed_good h)
def tdocP (b : Oct) : Option (List PF) := if b.length > 2000 then none else match docP 8 b with
  | some l => if tableOkP l = true then some l else none
  | none => none
theorem tdoc_eq (b : Oct) : tdocP b = tparseP b := by
  have two : ∀ l, b.length ≤ 2000 → tableOkP l = true → (parseP 8 b = some l ↔ docP 8 b = some l) := by
    intro l hb ok
    unfold tableOkP at ok
    simp only [Bool.and_eq_true] at ok
    exact doc_two 8 b l hb ok.1
  unfold tdocP tparseP
  by_cases hb : b.length > 2000
  · rw [if_pos hb]
    have : parseP 8 b = none := by unfold parseP; rw [if_pos hb]
    rw [this]
  · rw [if_neg hb]
    cases hp : parseP 8 b with
    | none =>
      cases hd : docP 8 b with
      | none => rfl
      | some l =>
        simp only
        by_cases ok : tableOkP l = true
        · rw [(two l (by omega) ok).2 hd] at hp; cases hp
        · rw [if_neg ok]
    | some l =>
      simp only [tableOk_isSome]
      by_cases ok : tableOkP l = true
      · rw [(two l (by omega) ok).1 hp]
      · rw [if_neg ok]
        cases hd : docP 8 b with
        | none => rfl
        | some m =>
          simp only
          by_cases ok2 : tableOkP m = true
          · have := (two m (by omega) ok2).2 hd
            rw [hp] at this
            cases this
            exact absurd ok2 ok
          · rw [if_neg ok2]
end Go.Proofs.Ytjkiaeccjelklaa.Pr
end
section
set_option linter.unusedVariables false
set_option linter.unusedSimpArgs false
namespace Go.Proofs.Ytjkiaeccjelklaa.Pr
open Go Go.Lift Go.Proofs
theorem sl_bool : SlT P T.sl_bool T.bool 1 1 [.bool false] := slT (by kernel_rfl) (by kernel_rfl)
theorem u_slb : P.underlying T.sl_bool = some (.slice T.bool) := by kernel_rfl
theorem sl_string : SlT P T.sl_string T.string 1 16 [.string (mkS [])] := slT (by kernel_rfl) (by kernel_rfl)
theorem sl_uint64 : SlT P T.sl_uint64 T.uint64 1 8 [.int .u64 0] := slT (by kernel_rfl) (by kernel_rfl)
def bools (l : List Bool) : List Value := l.map .bool
theorem bools_one (l : List Bool) : ∀ w ∈ bools l, one w = true := by
  intro w hw
  obtain ⟨b, _, rfl⟩ := List.mem_map.1 hw
  rfl
def bitOf (c i : Nat) : Bool := c / 2 ^ i % 2 == 1
theorem bit_eq {c i : Nat} (hc : c < 18446744073709551616) (hi : i < 64) : (bitsI .and .u64 (shrI .u64 (c : Int) (i : Int)) 1 == 1) = bitOf c i := by
  have e1 : shrI .u64 (c : Int) (i : Int) = ((c / 2 ^ i : Nat) : Int) := by
    simp only [shrI, IntKind.bits, Int.toNat_natCast]
    rw [show min i 64 = i by omega, show (2 : Int) ^ i = ((2 ^ i : Nat) : Int) by rw [Int.natCast_pow]; rfl, Int.fdiv_eq_ediv_of_nonneg _ (Int.natCast_nonneg _), ← Int.natCast_ediv]
  have hd : c / 2 ^ i < 18446744073709551616 := Nat.lt_of_le_of_lt (Nat.div_le_self ..) hc
  have := and_u64 (c / 2 ^ i) 1
  rw [e1]
  rw [show ((1 : Nat) : Int) = 1 from rfl] at this
  rw [this, Nat.mod_eq_of_lt hd, Nat.mod_eq_of_lt (show 1 < 18446744073709551616 by decide), Nat.and_one_is_mod, Bool.eq_iff_iff]
  unfold bitOf
  rw [beq_iff_eq, beq_iff_eq]
  omega
def unpackP : Nat → Nat → Nat → RS → List Bool × RS
  | 0, _, _, s => ([], s)
  | k + 1, i, c, s =>
    if i % 8 = 0 then let r := unpackP k (i + 1) (numN (takeP 1 s).1) (takeP 1 s).2; (bitOf (numN (takeP 1 s).1) (i % 8) :: r.1, r.2)
    else let r := unpackP k (i + 1) c s; (bitOf c (i % 8) :: r.1, r.2)
theorem unpackP_len : ∀ (k i c : Nat) (s : RS), (unpackP k i c s).1.length = k
  | 0, _, _, _ => rfl
  | k + 1, i, c, s => by
    unfold unpackP
    split <;> simp [unpackP_len k]
theorem tmod8 (i : Nat) : Int.tmod (i : Int) 8 = ((i % 8 : Nat) : Int) := by rw [Int.tmod_eq_emod_of_nonneg (by omega)]; rfl
section
variable {K : KT} {L R : List Asr} {h : Heap}
theorem unpack_loop {r : Addr} {n : Nat} {full : List Bool} {send : RS} (hn : n < 1000000)
    (hK : ∀ p l c h', St (Ow 1 (p, l, c) (bools full) :: RdA r send :: L) h' → K (.slice p l c) h') :
    ∀ (fuel i c : Nat) (t : SV) (out : List Bool) (s : RS) (h : Heap), n - i < fuel → i ≤ n → c < 18446744073709551616 → out.length = i → (out ++ (unpackP (n - i) i c s).1, (unpackP (n - i) i c s).2) = (full, send) →
      St (Ow 1 t (bools out) :: RdA r s :: L) h → qay.L1 K fuel (some r) t.1 t.2.1 t.2.2 c n i h
  | 0, _, _, _, _, _, _, hf, _, _, _, _, _ => absurd hf (Nat.not_lt_zero _)
  | fuel + 1, i, c, t, out, s, h, hf, hi, hc, hol, he, S => by
    unfold qay.L1
    by_cases hlt : i < n
    · refine ifT (by simp; omega) ⟨by decide, ?_⟩
      rw [tmod8]
      have hni : n - i = (n - (i + 1)) + 1 := by omega
      have fin : ∀ (c' : Nat) (s' : RS) (h' : Heap), c' < 18446744073709551616 → St (Ow 1 t (bools out) :: RdA r s' :: L) h' →
          (out ++ (bitOf c' (i % 8) :: (unpackP (n - (i + 1)) (i + 1) c' s').1), (unpackP (n - (i + 1)) (i + 1) c' s').2) = (full, send) → qay.j2 K (qay.L1 K fuel) (some r) t.1 t.2.1 t.2.2 c' i n i h' := by
        intro c' s' h' hc' S' he'
        unfold qay.j2
        rw [tmod8]
        have e8 : IntKind.u64.wrap ((i % 8 : Nat) : Int) = ((i % 8 : Nat) : Int) := wrap_len (by omega)
        rw [e8]
        refine ⟨by decide, by omega, ?_⟩
        rw [bit_eq hc' (by omega)]
        simp only [bd]
        have hol' := S'.ow.1
        simp only [bools, List.length_map, Nat.mul_one] at hol'
        have S2 := S'.al (bools [bitOf c' (i % 8)]) T.bool
        refine St.app sl_bool rfl u_slb (fun k e => by cases e) S2.p1 (Src.slice (n := 1) ⟨rfl, S2.mem.1⟩ (bools_one _)) (by omega) (by omega) fun p2 c2 h2 S3 => ⟨_, _, _, rfl, ?_⟩
        rw [wsucc (by omega)]
        have eb : bools out ++ bools [bitOf c' (i % 8)] = bools (out ++ [bitOf c' (i % 8)]) := by simp [bools]
        rw [eb] at S3
        refine unpack_loop hn hK fuel (i + 1) c' (p2, t.2.1 + 1, c2) (out ++ [bitOf c' (i % 8)]) s' h2 (by omega) (by omega) hc' (by simp [hol]) ?_ S3.to
        rw [← he', List.append_assoc]; rfl
      rw [hni, unpackP] at he
      by_cases h8 : i % 8 = 0
      · refine ifT (by simp; omega) ?_
        refine rintS (n := 1) S (by omega) (by omega) fun h' S' => ⟨_, rfl, ?_⟩
        rw [if_pos h8] at he
        exact fin _ _ h' (numN_lt _) S'.to he
      · refine ifF (by simp; omega) ?_
        rw [if_neg h8] at he
        exact fin c s h hc S he
    · refine ifF (by simp; omega) ?_
      rw [show n - i = 0 by omega, unpackP, List.append_nil] at he
      cases he
      exact hK _ _ _ h S
theorem unpackS {r : Addr} {n : Nat} {s : RS} (S : St L h) [Has (RdA r) L s R] (hn : n < 1000000)
    (hK : ∀ p l c h', St (Ow 1 (p, l, c) (bools (unpackP n 0 0 s).1) :: RdA r (unpackP n 0 0 s).2 :: R) h' → K (.slice p l c) h') : CallsH P F.qay [.pointer (some r), .int .i64 n] K h := by
  refine qay.ok ?_
  unfold qay.p0
  exact ⟨n + 1, unpack_loop hn hK _ 0 0 (none, 0, 0) [] s h (by omega) (by omega) (by decide) rfl rfl ((S.get (RdA r)).owNil 1)⟩
structure PM where
  N : List Nat
  S : List Oct
  F : List Bool
  T : List PF
def nums (l : List Nat) : List Value := l.map fun n : Nat => .int .u64 (n : Int)
def strs (l : List Oct) : List Value := l.map fun s => .string (mkS s)
structure MV where
  n : SV
  s : SV
  f : SV
  t : SV
abbrev mcells (a b : Int) (y : MV) : List Value := [.int .i64 a, .int .i64 b, y.n.v, y.s.v, y.f.v, y.t.v]
def MB (m : Addr) (a b : Int) (x : PM) : Asr := ex fun y : MV => ex fun B : Nat → Prop => stars [Bx m (mcells a b y), Ow 1 y.n (nums x.N), Ow 1 y.s (strs x.S), Ow 1 y.f (bools x.F), Tb B y.t x.T]
theorem MB.op {m : Addr} {a b : Int} {x : PM} (S : St (MB m a b x :: L) h) : ∃ y B, St (Bx m (mcells a b y) :: Ow 1 y.n (nums x.N) :: Ow 1 y.s (strs x.S) :: Ow 1 y.f (bools x.F) :: Tb B y.t x.T :: L) h := by
  obtain ⟨y, S⟩ := S.ex
  obtain ⟨B, S⟩ := S.ex
  exact ⟨y, B, St.open S⟩
theorem MB.cl {m : Addr} {a b : Int} {x : PM} (y : MV) (B : Nat → Prop) (S : St (Bx m (mcells a b y) :: Ow 1 y.n (nums x.N) :: Ow 1 y.s (strs x.S) :: Ow 1 y.f (bools x.F) :: Tb B y.t x.T :: L) h) : St (MB m a b x :: L) h :=
  St.ex' y (St.ex' B (St.close S))
def oneP (c : UInt8) (s : RS) (x : PM) : PM × Bool × RS :=
  if c = 115 then ({ x with S := x.S ++ [(measP 1 s).1] }, true, (measP 1 s).2)
  else if c = 108 then ({ x with S := x.S ++ [(measP 4 s).1] }, true, (measP 4 s).2)
  else if c = 116 then ({ x with T := (tparseP (measP 4 s).1).getD [] }, (tparseP (measP 4 s).1).isSome, (measP 4 s).2)
  else ({ x with N := x.N ++ [numN (takeP (c.toNat - 48) s).1] }, true, (takeP (c.toNat - 48) s).2)
def letter (c : UInt8) : Prop := c = 115 ∨ c = 108 ∨ c = 116 ∨ (49 ≤ c.toNat ∧ c.toNat ≤ 56)
theorem eb8 (k n : UInt8) : (((k.toNat : Nat) : Int) == (n.toNat : Int)) = decide (k = n) := by
  rw [Bool.eq_iff_iff, beq_iff_eq, decide_eq_true_eq]
  exact ⟨fun e => UInt8.toNat_inj.1 (by omega), fun e => by rw [e]⟩
theorem oneS {r m : Addr} {s : RS} {a b : Int} {x : PM} {c : UInt8} {R1 R2 : List Asr} (S0 : St L h) [H1 : Has (RdA r) L s R1] [H2 : Has (MB m a b) R1 x R2] (hc : letter c) (hN : x.N.length < 1000000) (hS : x.S.length < 1000000)
    (hK : ∀ h', St (RdA r (oneP c s x).2.2 :: MB m a b (oneP c s x).1 :: R2) h' → K (.bool (oneP c s x).2.1) h') : CallsH P F.qcf [.pointer (some r), .pointer (some m), .int .u8 (c.toNat : Int)] K h := by
  have S1 : St (MB m a b x :: RdA r s :: R2) h := St.perm (S0.perm H1.perm) ((H2.perm.cons _).trans (List.Perm.swap ..))
  obtain ⟨y, B, S⟩ := MB.op S1
  have hb := RdA.len ((S.get (RdA r)))
  have e115 := eb8 c 115
  have e108 := eb8 c 108
  have e116 := eb8 c 116
  simp only [show ((116 : UInt8).toNat : Int) = 116 from rfl, show ((115 : UInt8).toNat : Int) = 115 from rfl, show ((108 : UInt8).toNat : Int) = 108 from rfl] at e115 e108 e116
  refine qcf.ok ?_
  unfold qcf.p0
  simp only [bd, someE, rdS (S.rc m 3 rfl), rdS (S.rc m 2 rfl)]
  rw [e115, e108, e116]
  have lS : y.s.2.1 = x.S.length := by have := (S.ows 1 y.s).1; simp only [strs, List.length_map, Nat.mul_one] at this; omega
  have lN : y.n.2.1 = x.N.length := by have := (S.ows 1 y.n).1; simp only [nums, List.length_map, Nat.mul_one] at this; omega
  unfold oneP at hK
  have m4 := measP_le 4 s
  by_cases k1 : c = 115
  · simp only [if_pos k1] at hK
    refine ifT (by simp [k1]) ?_
    refine ⟨rshortS S fun h1 S1 => ⟨_, rfl, ?_⟩, rshortS S fun h1 S1 => ⟨_, rfl, ?_⟩⟩
    all_goals
      try simp only [rdS (S1.rc m 3 rfl), rdS ((S1.al [.string (mkS (measP 1 s).1)] T.string).rc m 3 rfl), and_self]
      refine St.push1 sl_string S1 m 3 y.s rfl (by simp) (by omega) (by omega) fun p c h2 S2 => hK h2 (St.p1 (MB.cl ⟨y.n, (p, y.s.2.1 + 1, c), y.f, y.t⟩ B ?_))
      have e : strs x.S ++ [.string (mkS (measP 1 s).1)] = strs (x.S ++ [(measP 1 s).1]) := by simp [strs]
      simp only [e, List.set_cons_succ, List.set_cons_zero] at S2
      exact S2.to
  simp only [if_neg k1] at hK
  refine ifF (by simp [k1]) ?_
  by_cases k2 : c = 108
  · simp only [if_pos k2] at hK
    refine ifT (by simp [k2]) ?_
    refine ⟨rlongS S fun p l c h1 S1 => ⟨_, _, _, rfl, ?_⟩, rlongS S fun p l c h1 S1 => ⟨_, _, _, rfl, ?_⟩⟩
    all_goals
      try simp only [rdS (S1.rc m 3 rfl)]
      repeat' (with_reducible refine And.intro ?_ ?_)
      all_goals
        refine str_ok u_sl u_u8 u_str (S1.osl 1 (p, l, c)) ⟨_, rfl, ?_⟩
        try simp only [rdS (S1.rc m 3 rfl), rdS ((S1.al [.string (mkS (measP 4 s).1)] T.string).rc m 3 rfl), and_self]
        refine St.push1 sl_string S1 m 3 y.s rfl (by simp) (by omega) (by omega) fun p c h2 S2 => hK h2 (St.p1 (MB.cl ⟨y.n, (p, y.s.2.1 + 1, c), y.f, y.t⟩ B ?_))
        have e : strs x.S ++ [.string (mkS (measP 4 s).1)] = strs (x.S ++ [(measP 4 s).1]) := by simp [strs]
        simp only [e, List.set_cons_succ, List.set_cons_zero] at S2
        exact S2.to
  simp only [if_neg k2] at hK
  refine ifF (by simp [k2]) ?_
  by_cases k3 : c = 116
  · simp only [if_pos k3] at hK
    refine ifT (by simp [k3]) (rlongS S fun p l c h1 S1 => ⟨_, _, _, rfl, ?_⟩)
    refine tparseS (s := (p, l, c)) (bs := (measP 4 s).1) (S1.fz 1 (p, l, c)) (by omega) fun p2 l2 c2 h2 B2 S2 => ⟨_, _, _, _, rfl, S2.put1 m 5 (by simp) rfl fun h3 S3 => hK h3 (St.p1 (MB.cl ⟨y.n, y.s, y.f, (p2, l2, c2)⟩ B2 ?_))⟩
    simp only [List.set_cons_succ, List.set_cons_zero] at S3
    exact S3.to
  simp only [if_neg k3] at hK
  have hd : 49 ≤ c.toNat ∧ c.toNat ≤ 56 := by
    rcases hc with e | e | e | e
    · exact absurd e k1
    · exact absurd e k2
    · exact absurd e k3
    · exact e
  have ew : IntKind.i64.wrap (IntKind.u8.wrap ((c.toNat : Int) - 48)) = ((c.toNat - 48 : Nat) : Int) := by
    rw [IntKind.wrap_u8', wrapI (by omega) (by omega)]; omega
  rw [ew]
  refine ifF (by simp [k3]) ?_
  refine ⟨rintS S (by omega) (by omega) fun h1 S1 => ⟨_, rfl, ?_⟩, rintS S (by omega) (by omega) fun h1 S1 => ⟨_, rfl, ?_⟩⟩
  all_goals
    try simp only [bd, someE, rdS (S1.rc m 2 rfl), rdS ((S1.al [.int .u64 (numN (takeP (c.toNat - 48) s).1 : Nat)] T.uint64).rc m 2 rfl), and_self]
    refine St.push1 sl_uint64 S1 m 2 y.n rfl (by simp) (by omega) (by omega) fun p cc h2 S2 => hK h2 (St.p1 (MB.cl ⟨(p, y.n.2.1 + 1, cc), y.s, y.f, y.t⟩ B ?_))
    have e : nums x.N ++ [.int .u64 (numN (takeP (c.toNat - 48) s).1 : Nat)] = nums (x.N ++ [numN (takeP (c.toNat - 48) s).1]) := by simp [nums]
    simp only [e, List.set_cons_succ, List.set_cons_zero] at S2
    exact S2.to
def formR : Nat → Oct → RS → PM → Bool → PM × Bool × RS
  | 0, _, s, x, ok => (x, ok, s)
  | k + 1, f, s, x, ok =>
    if f = [] then (x, ok, s)
    else if 0 < flagsP f then formR k (f.drop (flagsP f)) (unpackP (flagsP f) 0 0 s).2 { x with F := x.F ++ (unpackP (flagsP f) 0 0 s).1 } ok
    else formR k (f.drop 1) (oneP (f.getD 0 0) s x).2.2 (oneP (f.getD 0 0) s x).1 ((oneP (f.getD 0 0) s x).2.1 && ok)
def goodForm (f : Oct) : Prop := (∀ c ∈ f, c = 102 ∨ letter c) ∧ f.length < 16
theorem flagsP_zero {f : Oct} (h : ¬ 0 < flagsP f) (hf : f ≠ []) : f.getD 0 0 ≠ 102 := by
  cases f with
  | nil => exact absurd rfl hf
  | cons c t =>
    intro e
    simp only [List.getD_cons_zero] at e
    unfold flagsP at h
    rw [if_pos e] at h
    omega
theorem goodForm.drop {f : Oct} (g : goodForm f) (n : Nat) : goodForm (f.drop n) := ⟨fun c hc => g.1 c (List.mem_of_mem_drop hc), by have := g.2; simp; omega⟩
theorem oneP_len (c : UInt8) (s : RS) (x : PM) : (oneP c s x).1.N.length ≤ x.N.length + 1 ∧ (oneP c s x).1.S.length ≤ x.S.length + 1 ∧ (oneP c s x).1.F = x.F := by
  unfold oneP
  split
  · simp
  split
  · simp
  split
  · simp
  · simp
theorem Parse_loop {r m m0 : Addr} {a b : Int} {xe : PM} {oke : Bool} {se : RS}
    (hK : ∀ h', St (RdA r se :: MB m a b xe :: L) h' → qar.j1 K m0 (some r) m oke h') :
    ∀ (fuel : Nat) (f : Oct) (s : RS) (x : PM) (ok : Bool) (h : Heap), goodForm f → f.length < fuel → x.N.length + f.length < 2000 → x.S.length + f.length < 2000 → x.F.length + f.length < 2000 → formR fuel f s x ok = (xe, oke, se) →
      St (RdA r s :: MB m a b x :: L) h → qar.L3 K fuel m0 (some r) m f ok h
  | 0, _, _, _, _, _, _, hf, _, _, _, _, _ => absurd hf (Nat.not_lt_zero _)
  | fuel + 1, f, s, x, ok, h, g, hf, hN, hS, hF, he, S => by
    unfold qar.L3
    unfold formR at he
    by_cases e0 : f = []
    · rw [if_pos e0] at he
      cases he
      exact ifF (by simp [e0]) (hK h S)
    rw [if_neg e0] at he
    have hpos := List.length_pos_iff.2 e0
    have hfl := flagsP_le f
    refine ifT (by simp [e0]) ?_
    refine flags.spec (by have := g.2; omega) ⟨_, rfl, ?_⟩
    by_cases h1 : 0 < flagsP f
    · rw [if_pos h1] at he
      refine ifT (by simp; omega) ?_
      obtain ⟨y, B, S1⟩ := MB.op S.p1
      have lF : y.f.2.1 = x.F.length := by have := (S1.ows 1 y.f).1; simp only [bools, List.length_map, Nat.mul_one] at this; omega
      simp only [rdS (S1.rc m 4 rfl)]
      refine ⟨?_, ?_⟩
      all_goals
        refine unpackS S1 (by omega) fun p l c h2 S2 => ⟨_, _, _, rfl, ?_⟩
        try simp only [rdS (S2.rc m 4 rfl)]
        have sl := (S2.osl 1 (p, l, c))
        have lU := sl.1
        simp only [bools, List.length_map, Nat.mul_one, unpackP_len] at lU
        refine St.pushS sl_bool u_slb (fun k e => by cases e) S2 m 4 y.f (Src.slice sl (bools_one _)) (by simp) (by omega) (by omega) fun p2 c2 h3 S3 => ?_
        unfold qar.j4
        refine ⟨⟨by omega, by omega⟩, ?_⟩
        simp only [bd, Int.toNat_natCast]
        have e : bools x.F ++ bools (unpackP (flagsP f) 0 0 s).1 = bools (x.F ++ (unpackP (flagsP f) 0 0 s).1) := by simp [bools]
        simp only [e, List.set_cons_succ, List.set_cons_zero] at S3
        have S4 : St (MB m a b { x with F := x.F ++ (unpackP (flagsP f) 0 0 s).1 } :: RdA r (unpackP (flagsP f) 0 0 s).2 :: L) h3 := MB.cl ⟨y.n, y.s, (p2, y.f.2.1 + l, c2), y.t⟩ B S3.to
        exact Parse_loop hK fuel _ _ _ ok h3 (g.drop _) (by simp; omega) (by simp; omega) (by simp; omega) (by simp [unpackP_len]; omega) he S4.p1
    · rw [if_neg h1] at he
      refine ifF (by simp; omega) ⟨by omega, by omega, ?_⟩
      have hmem : f.getD 0 0 ∈ f := by
        cases f with
        | nil => exact absurd rfl e0
        | cons c t => simp
      have hc : letter (f.getD 0 0) := (g.1 _ hmem).resolve_left (flagsP_zero h1 e0)
      have elb : lb f 0 = ((f.getD 0 0).toNat : Int) := rfl
      rw [elb]
      have ol := oneP_len (f.getD 0 0) s x
      refine oneS (a := a) (b := b) (x := x) S hc (by omega) (by omega) fun h2 S2 => ⟨_, rfl, ?_⟩
      have fin : ∀ ok', ok' = ((oneP (f.getD 0 0) s x).2.1 && ok) → qar.j4 K (qar.L3 K fuel) m0 (some r) m f ok' 1 h2 := by
        intro ok' e
        subst e
        unfold qar.j4
        refine ⟨⟨by omega, by omega⟩, ?_⟩
        simp only [bd]
        exact Parse_loop hK fuel (f.drop 1) (oneP (f.getD 0 0) s x).2.2 (oneP (f.getD 0 0) s x).1 _ h2 (g.drop 1) (by rw [List.length_drop]; omega) (by rw [List.length_drop]; omega) (by rw [List.length_drop]; omega) (by rw [List.length_drop, ol.2.2]; omega) he S2
      cases hb : (oneP (f.getD 0 0) s x).2.1 with
      | true => exact ifT rfl (fin ok (by rw [hb]; rfl))
      | false => exact ifF rfl (fin false (by rw [hb]; rfl))
theorem forms_good : ∀ x ∈ knownL, goodForm x.2 := by
  have h : knownL.all (fun x => x.2.all (fun c => c = 102 ∨ c = 115 ∨ c = 108 ∨ c = 116 ∨ (49 ≤ c.toNat ∧ c.toNat ≤ 56)) && decide (x.2.length < 16)) = true := by decide +kernel
  intro x hx
  have := List.all_eq_true.1 h x hx
  rw [Bool.and_eq_true, List.all_eq_true] at this
  exact ⟨fun c hc => by simpa [letter] using this.1 c hc, by simpa using this.2⟩
theorem formP_good {c : Int × Int} {f : Oct} (h : formP c = some f) : goodForm f := forms_good (c, f) (get?_mem h)
def noM : PM := ⟨[], [], [], []⟩
def methP (b : Oct) : Sum Nat (Int × Int × PM) :=
  if (takeP 2 (takeP 2 (b, false)).2).2.2 = true then .inl 4
  else match formP ((numN (takeP 2 (b, false)).1 : Int), (numN (takeP 2 (takeP 2 (b, false)).2).1 : Int)) with
    | none => .inl 5
    | some f =>
      if (formR (f.length + 1) f (takeP 2 (takeP 2 (b, false)).2).2 noM true).2.1 = false ∨ (formR (f.length + 1) f (takeP 2 (takeP 2 (b, false)).2).2 noM true).2.2.2 = true ∨
          (formR (f.length + 1) f (takeP 2 (takeP 2 (b, false)).2).2 noM true).2.2.1 ≠ [] then .inl 4
      else .inr ((numN (takeP 2 (b, false)).1 : Int), (numN (takeP 2 (takeP 2 (b, false)).2).1 : Int), (formR (f.length + 1) f (takeP 2 (takeP 2 (b, false)).2).2 noM true).1)
def resE (r : Sum Nat (Int × Int × PM)) : Nat := match r with | .inl e => e | .inr _ => 0
def resM (r : Sum Nat (Int × Int × PM)) : Int × Int × PM := match r with | .inl _ => (0, 0, noM) | .inr m => m
abbrev mnil : MV := ⟨(none, 0, 0), (none, 0, 0), (none, 0, 0), (none, 0, 0)⟩
theorem meNil (S : St L h) : St (Im 1 mnil.n (nums []) :: Im 1 mnil.s (strs []) :: Im 1 mnil.f (bools []) :: Tb (fun _ => False) mnil.t [] :: L) h := (((tbNil 0 S).imNil 1 0).imNil 1 0).imNil 1 0
theorem numN2_lt {b : Oct} (h : b.length ≤ 2) : numN b < 65536 := by
  match b, h with
  | [], _ => decide
  | [x], _ => have := x.toNat_lt; simp [numN]; omega
  | [x, y], _ => have := x.toNat_lt; have := y.toNat_lt; simp [numN]; omega
theorem methS {s : SV} {bs : Oct} (S : St L h) [In (fun b => Im 1 s (u8s b)) L bs] (hb : bs.length < 1099511627776)
    (hK : ∀ y B h', St (Im 1 y.n (nums (resM (methP bs)).2.2.N) :: Im 1 y.s (strs (resM (methP bs)).2.2.S) :: Im 1 y.f (bools (resM (methP bs)).2.2.F) :: Tb B y.t (resM (methP bs)).2.2.T :: L) h' →
      K (.tuple #[.agg (List.toArray (mcells (resM (methP bs)).1 (resM (methP bs)).2.1 y)), .int .i64 (resE (methP bs) : Nat)]) h') : CallsH P F.qar [.slice s.1 s.2.1 s.2.2] K h := by
  refine qar.ok ?_
  unfold qar.p0
  simp only [bd]
  have S1 := S.al (mcells 0 0 mnil) T.api_Method
  generalize al h (mcells 0 0 mnil).toArray T.api_Method = h1 at *
  generalize top h = m0 at *
  have err : ∀ (e : Nat) (h' : Heap), methP bs = .inl e → St (Bx m0 (mcells 0 0 mnil) :: L) h' →
      ([.int .i64 0, .int .i64 0, .slice none 0 0, .slice none 0 0, .slice none 0 0, .slice none 0 0] : List Value).length = 6 ∧ ∃ h16, stC h' m0 0 [.int .i64 0, .int .i64 0, .slice none 0 0, .slice none 0 0, .slice none 0 0, .slice none 0 0] = some h16 ∧ ∃ cs17, rdC h16 m0 0 6 = some cs17 ∧ K (.tuple #[.agg (List.toArray cs17), .int .i64 e]) h16 := by
    intro e h' he S'
    rw [he] at hK
    refine ⟨rfl, S'.putA m0 rfl (by simp [one]) fun h2 S2 => ⟨_, S2.rall m0 6 rfl, hK mnil _ h2 (meNil S2.tl)⟩⟩
  refine fromS (s := s) (bs := bs) S1 hb fun h2 S2 => ⟨_, rfl, ?_⟩
  generalize top h1 = r at *
  refine rintS (n := 2) S2 (by omega) (by omega) fun h3 S3 => ⟨_, rfl, rintS (n := 2) S3 (by omega) (by omega) fun h4 S4 => ⟨_, rfl, ?_⟩⟩
  have n1 : numN (takeP 2 (bs, false)).1 < 65536 := numN2_lt (by unfold takeP; split <;> simp; omega)
  have n2 : numN (takeP 2 (takeP 2 (bs, false)).2).1 < 65536 := numN2_lt (by generalize (takeP 2 (bs, false)).2 = z; unfold takeP; split <;> simp; omega)
  rw [wrapI (by omega) (by omega), wrapI (by omega) (by omega)]
  have S5 := S4.al (mcells 0 0 mnil) T.api_Method
  refine ⟨rfl, S5.putA (top h4) rfl (by simp [one]) fun h5 S6 => ?_⟩
  clear S5
  generalize top h4 = m at *
  unfold methP at hK err
  generalize (numN (takeP 2 (bs, false)).1 : Int) = cl at *
  generalize (numN (takeP 2 (takeP 2 (bs, false)).2).1 : Int) = id at *
  generalize (takeP 2 (takeP 2 (bs, false)).2).2 = st at *
  refine okS S6 ⟨_, rfl, ?_⟩
  cases hbad : st.2 with
  | true =>
    refine ifT (by simp) ?_
    simp only [hbad, if_true] at err
    exact err 4 h5 rfl S6.to
  | false =>
    refine ifF (by simp) ?_
    simp only [hbad, Bool.false_eq_true, if_false] at err hK
    simp only [rdN (S6.rc m 0 rfl), rdN (S6.rc m 1 rfl)]
    refine Form.spec fun h6 k6 => ⟨_, _, rfl, ?_⟩
    have S7 := S6.kept k6
    cases hf : formP (cl, id) with
    | none =>
      simp only [hf] at err
      exact ifT (by rfl) (err 5 h6 rfl S7.to)
    | some f =>
      simp only [hf] at err hK
      refine ifF (by rfl) ?_
      have g := formP_good hf
      have S8 : St (MB m cl id noM :: RdA r st :: Bx m0 (mcells 0 0 mnil) :: L) h6 := MB.cl mnil (fun _ => False) (((((tbNil 0 S7).owNil 1).owNil 1).owNil 1).p4)
      refine ⟨f.length + 1, Parse_loop (xe := (formR (f.length + 1) f st noM true).1) (oke := (formR (f.length + 1) f st noM true).2.1) (se := (formR (f.length + 1) f st noM true).2.2) (L := Bx m0 (mcells 0 0 mnil) :: L) (fun h7 S9 => ?_) _ f st noM true h6 g (by omega) (by have := g.2; simp [noM]; omega) (by have := g.2; simp [noM]; omega) (by have := g.2; simp [noM]; omega) rfl S8.p1⟩
      unfold qar.j1
      have bad : (formR (f.length + 1) f st noM true).2.1 = false ∨ (formR (f.length + 1) f st noM true).2.2.2 = true ∨ (formR (f.length + 1) f st noM true).2.2.1 ≠ [] → qar.j2 K m0 m true h7 := by
        intro hc
        unfold qar.j2
        refine ifT rfl (err 4 h7 ?_ S9.to)
        exact if_pos hc
      cases h1 : (formR (f.length + 1) f st noM true).2.1 with
      | false => exact ifT' (by simp) (bad (.inl h1))
      | true =>
        refine ifF' (by simp) (okS S9 ⟨_, rfl, ?_⟩)
        cases h2 : (formR (f.length + 1) f st noM true).2.2.2 with
        | true => exact ifT' (by simp) (bad (.inr (.inl h2)))
        | false =>
          refine ifF' (by simp) (leftS S9 ⟨_, rfl, ?_⟩)
          by_cases h3 : (formR (f.length + 1) f st noM true).2.2.1 = []
          · rw [decide_eq_false (by rw [h3]; decide)]
            unfold qar.j2
            refine ifF rfl ?_
            obtain ⟨y, B, S10⟩ := MB.op S9.p1
            refine ⟨_, S10.rall m 6 rfl, rfl, S10.putA m0 rfl (by simp [one]) fun h8 S11 => ⟨_, S11.rall m0 6 rfl, ?_⟩⟩
            have hfin := hK y B h8
            rw [if_neg (by simp [h1, h2, h3])] at hfin
            simp only [resM, resE] at hfin
            exact hfin ((((S11.fz 1 y.f).fz 1 y.s).fz 1 y.n)).to
          · rw [decide_eq_true (by have := List.length_pos_iff.2 h3; omega)]
            exact bad (.inr (.inr h3))
end
end Go.Proofs.Ytjkiaeccjelklaa.Pr
end
section
set_option linter.unusedVariables false
set_option linter.unusedSimpArgs false
namespace Go.Proofs.Ytjkiaeccjelklaa.Pr
open Go Go.Lift Go.Proofs
def orLast (o : Oct) (v : UInt8) : Oct := o.set (o.length - 1) (o.getD (o.length - 1) 0 ||| v)
def bitO (i : Nat) : UInt8 := UInt8.ofNat (2 ^ i)
def packGo : List Bool → Nat → Oct → Oct
  | [], _, o => o
  | b :: r, i, o => packGo r (i + 1) (if b then orLast (if i % 8 = 0 then o ++ [0] else o) (bitO (i % 8)) else (if i % 8 = 0 then o ++ [0] else o))
def oneW (c : UInt8) (z : Oct × PM) : Option (Oct × PM) :=
  if c = 115 then match z.2.S with
    | [] => none
    | s :: r => if s.length > 255 then none else some (z.1 ++ octsN 1 s.length ++ s, { z.2 with S := r })
  else if c = 108 then match z.2.S with
    | [] => none
    | s :: r => some (z.1 ++ octsN 4 s.length ++ s, { z.2 with S := r })
  else if c = 116 then match tableP z.2.T with
    | none => none
    | some b => some (z.1 ++ octsN 4 b.length ++ b, { z.2 with T := [] })
  else match z.2.N with
    | [] => none
    | v :: r => if c.toNat - 48 = 8 ∨ v / 256 ^ (c.toNat - 48) = 0 then some (z.1 ++ octsN (c.toNat - 48) v, { z.2 with N := r }) else none
def packW (n : Nat) (z : Oct × PM) : Option (Oct × PM) := if z.2.F.length < n then none else some (packGo (z.2.F.take n) 0 z.1, { z.2 with F := z.2.F.drop n })
def formW : Nat → Oct → Oct × PM → Option (Oct × PM)
  | 0, _, _ => none
  | k + 1, f, z => if f = [] then some z else if 0 < flagsP f then (packW (flagsP f) z).bind (formW k (f.drop (flagsP f))) else (oneW (f.getD 0 0) z).bind (formW k (f.drop 1))
def methW (a b : Int) (x : PM) : Option Oct := match formP (a, b) with
  | none => none
  | some f => match formW (f.length + 1) f (octsN 2 (nat64 a) ++ octsN 2 (nat64 b), x) with
    | none => none
    | some z => if z.2.N = [] ∧ z.2.S = [] ∧ z.2.F = [] ∧ z.2.T = [] then some z.1 else none
structure smallM (x : PM) : Prop where
  n : x.N.length < 1000000
  n64 : ∀ v ∈ x.N, v < 18446744073709551616
  s : x.S.length < 1000000
  sl : ∀ s ∈ x.S, s.length < 1073741824
  f : x.F.length < 1000000
  t : smallP 8 x.T
  tl : x.T.length < 1000000
theorem or_u8 (a b : UInt8) : bitsI .or .u8 (a.toNat : Int) (b.toNat : Int) = (((a ||| b).toNat : Nat) : Int) := by
  have e : bitsI .or .u8 (a.toNat : Int) (b.toNat : Int) = IntKind.u8.wrap (((BitVec.ofInt 8 (a.toNat : Int) ||| BitVec.ofInt 8 (b.toNat : Int) : BitVec 8).toNat : Nat) : Int) := rfl
  have o1 : BitVec.ofInt 8 (a.toNat : Int) = BitVec.ofNat 8 a.toNat := BitVec.ofInt_natCast ..
  have o2 : BitVec.ofInt 8 (b.toNat : Int) = BitVec.ofNat 8 b.toNat := BitVec.ofInt_natCast ..
  rw [e, o1, o2, IntKind.wrap_u8', BitVec.toNat_or, BitVec.toNat_ofNat, BitVec.toNat_ofNat, UInt8.toNat_or]
  have h1 := a.toNat_lt
  have h2 := b.toNat_lt
  have h3 : a.toNat ||| b.toNat < 2 ^ 8 := Nat.or_lt_two_pow (by omega) (by omega)
  rw [Nat.mod_eq_of_lt (by omega), Nat.mod_eq_of_lt (by omega)]
  omega
theorem shl_u8 {i : Nat} (hi : i < 8) : shlI .u8 1 ((i : Nat) : Int) = (((bitO i).toNat : Nat) : Int) := by
  have : ∀ i : Nat, i < 8 → shlI .u8 1 ((i : Nat) : Int) = (((bitO i).toNat : Nat) : Int) := by decide
  exact this i hi
structure WV where
  b : SV
  y : MV
abbrev wcells (a b : Int) (z : WV) : List Value := [z.b.v, .int .i64 a, .int .i64 b, z.y.n.v, z.y.s.v, z.y.f.v, z.y.t.v]
def WB (w : Addr) (z : Oct × PM) : Asr := ex fun v : WV => ex fun ab : Int × Int => ex fun B : Nat → Prop => stars [Bx w (wcells ab.1 ab.2 v), Ow 1 v.b (u8s z.1), Im 1 v.y.n (nums z.2.N), Im 1 v.y.s (strs z.2.S), Im 1 v.y.f (bools z.2.F), Tb B v.y.t z.2.T]
section
variable {K : KT} {L R : List Asr} {h : Heap}
theorem WB.op {w : Addr} {z : Oct × PM} (S : St (WB w z :: L) h) : ∃ v a b B, St (Bx w (wcells a b v) :: Ow 1 v.b (u8s z.1) :: Im 1 v.y.n (nums z.2.N) :: Im 1 v.y.s (strs z.2.S) :: Im 1 v.y.f (bools z.2.F) :: Tb B v.y.t z.2.T :: L) h := by
  obtain ⟨v, S⟩ := S.ex
  obtain ⟨ab, S⟩ := S.ex
  obtain ⟨B, S⟩ := S.ex
  exact ⟨v, ab.1, ab.2, B, St.open S⟩
theorem WB.cl {w : Addr} {z : Oct × PM} (v : WV) (a b : Int) (B : Nat → Prop) (S : St (Bx w (wcells a b v) :: Ow 1 v.b (u8s z.1) :: Im 1 v.y.n (nums z.2.N) :: Im 1 v.y.s (strs z.2.S) :: Im 1 v.y.f (bools z.2.F) :: Tb B v.y.t z.2.T :: L) h) : St (WB w z :: L) h :=
  St.ex' v (St.ex' (a, b) (St.ex' B (St.close S)))
def WK (K : KT) (L : List Asr) (w : Addr) (r : Option (Oct × PM)) : Prop := ∀ h', (∀ z, r = some z → St (WB w z :: L) h' → K (.bool true) h') ∧ (r = none → (∃ z, St (WB w z :: L) h') → K (.bool false) h')
theorem numberS {w : Addr} {z : Oct × PM} {c : UInt8} (S0 : St (WB w z :: L) h) (hc : 49 ≤ c.toNat ∧ c.toNat ≤ 56) (h64 : ∀ v ∈ z.2.N, v < 18446744073709551616) (hb : z.1.length < 1099511627776)
    (hK : WK K L w (match z.2.N with
    | [] => none
    | v :: r => if c.toNat - 48 = 8 ∨ v / 256 ^ (c.toNat - 48) = 0 then some (z.1 ++ octsN (c.toNat - 48) v, { z.2 with N := r }) else none)) :
    CallsH P F.qbl [.pointer (some w), .int .i64 ((c.toNat - 48 : Nat) : Int)] K h := by
  obtain ⟨v, a, b, B, S⟩ := WB.op S0
  obtain ⟨out, N, Ss, Fs, Ts⟩ := z
  simp only at S h64 hb hK
  refine qbl.ok ?_
  unfold qbl.p0
  have sn := S.isl 1 v.y.n
  have ln := sn.1
  simp only [nums, List.length_map, Nat.mul_one] at ln
  simp only [bd, someE, rdS (S.rcc w 1 2 rfl)]
  generalize hn : c.toNat - 48 = n at *
  have hn8 : 1 ≤ n ∧ n ≤ 8 := by omega
  cases N with
  | nil =>
    refine ifT (by rw [← ln]; rfl) ((hK h).2 rfl ⟨_, S0⟩)
  | cons x r =>
    have hl : 0 < v.y.n.2.1 := by rw [← ln]; simp
    refine ifF (by simp; omega) ?_
    refine ixV sn (i := 0) (n := 0) rfl rfl fun q eq cq => ?_
    simp only [rdN cq, show Int.toNat 1 = 1 from rfl]
    have S1 := S.idrop v.y.n (n := 1) (by omega)
    refine ⟨⟨by omega, by omega⟩, S1.put2 w 1 2 (by simp) rfl fun h1 S2 => ?_⟩
    simp only [List.set_cons_succ, List.set_cons_zero] at S2
    simp only [rdS (S2.rc w 0 rfl)]
    refine intS (s := v.b) S2 (S2.osl 1 v.b) (by omega) (by omega) (by omega) fun p l c h2 S3 => ⟨_, _, _, rfl, S3.put1 w 0 (by simp) rfl fun h3 S4 => ?_⟩
    simp only [List.set_cons_succ, List.set_cons_zero] at S4
    have ed : (nums (x :: r)).drop 1 = nums r := rfl
    rw [ed] at S4
    have S5 : St (Bx w (wcells a b ⟨(p, l, c), (slA v.y.n.1 1 v.y.n.2.2 1, v.y.n.2.1 - 1, v.y.n.2.2 - 1), v.y.s, v.y.f, v.y.t⟩) :: Ow 1 (p, l, c) (u8s (out ++ octsN n x)) :: Im 1 (slA v.y.n.1 1 v.y.n.2.2 1, v.y.n.2.1 - 1, v.y.n.2.2 - 1) (nums r) :: Im 1 v.y.s (strs Ss) :: Im 1 v.y.f (bools Fs) :: Tb B v.y.t Ts :: L) h3 := S4.to
    have S6 : St (WB w (out ++ octsN n x, ⟨r, Ss, Fs, Ts⟩) :: L) h3 := WB.cl _ a b B S5
    simp only at hK
    by_cases e8 : n = 8
    · rw [if_pos (.inl e8)] at hK
      exact ⟨fun e => absurd e (by simp [e8]), fun _ => (hK h3).1 _ rfl S6⟩
    · refine ifF' (by simp; omega) ⟨by omega, ?_⟩
      have es : IntKind.u64.wrap (shlI .i64 (n : Int) 3) = ((8 * n : Nat) : Int) := shift_amount (by omega)
      rw [es]
      refine ⟨by omega, ?_⟩
      have ex := h64 x (List.mem_cons_self ..)
      have eq0 : (shrI .u64 (x : Int) ((8 * n : Nat) : Int) == 0) = decide (x / 256 ^ n = 0) := by
        simp only [shrI, IntKind.bits, Int.toNat_natCast]
        rw [show min (8 * n) 64 = 8 * n by omega]
        have hp : (2 : Int) ^ (8 * n) = ((256 ^ n : Nat) : Int) := by
          have : (256 : Nat) ^ n = 2 ^ (8 * n) := by rw [Nat.pow_mul]
          rw [this, Int.natCast_pow]; rfl
        rw [hp, Int.fdiv_eq_ediv_of_nonneg _ (Int.natCast_nonneg _), ← Int.natCast_ediv, Bool.eq_iff_iff, beq_iff_eq, decide_eq_true_eq]
        omega
      rw [eq0]
      by_cases e0 : x / 256 ^ n = 0
      · rw [if_pos (.inr e0)] at hK
        rw [decide_eq_true e0]
        exact (hK h3).1 _ rfl S6
      · rw [if_neg (by simp only [e8, e0, or_self, not_false_iff])] at hK
        rw [decide_eq_false e0]
        exact (hK h3).2 rfl ⟨_, S6⟩
theorem textS {w : Addr} {z : Oct × PM} {long : Bool} (S0 : St (WB w z :: L) h) (hs : ∀ s ∈ z.2.S, s.length < 1073741824) (hb : z.1.length < 1099511627776)
    (hK : WK K L w (match z.2.S with
    | [] => none
    | s :: r => if long then some (z.1 ++ octsN 4 s.length ++ s, { z.2 with S := r }) else if s.length > 255 then none else some (z.1 ++ octsN 1 s.length ++ s, { z.2 with S := r }))) :
    CallsH P F.qbp [.pointer (some w), .bool long] K h := by
  obtain ⟨v, a, b, B, S⟩ := WB.op S0
  obtain ⟨out, N, Ss, Fs, Ts⟩ := z
  simp only at S hs hb hK
  refine qbp.ok ?_
  unfold qbp.p0
  have sn := S.isl 1 v.y.s
  have ln := sn.1
  simp only [strs, List.length_map, Nat.mul_one] at ln
  simp only [bd, someE, rdS (S.rcc w 1 3 rfl)]
  cases Ss with
  | nil =>
    refine ifT (by rw [← ln]; rfl) ((hK h).2 rfl ⟨_, S0⟩)
  | cons x r =>
    have hl : 0 < v.y.s.2.1 := by rw [← ln]; simp
    have hx := hs x (List.mem_cons_self ..)
    refine ifF (by simp; omega) ?_
    refine ixV sn (i := 0) (n := 0) rfl rfl fun q eq cq => ?_
    simp only [rdT cq, show Int.toNat 1 = 1 from rfl]
    have S1 := S.idrop v.y.s (n := 1) (by omega)
    refine ⟨⟨by omega, by omega⟩, S1.put2 w 1 3 (by simp) rfl fun h1 S2 => ?_⟩
    simp only [List.set_cons_succ, List.set_cons_zero] at S2
    have ed : (strs (x :: r)).drop 1 = strs r := rfl
    rw [ed] at S2
    simp only [rdS (S2.rc w 0 rfl)]
    have fin : ∀ (bs : Oct) (p : OA) (l c : Nat) (h3 : Heap), St (Bx w [.slice p l c, .int .i64 a, .int .i64 b, v.y.n.v, .slice (slA v.y.s.1 1 v.y.s.2.2 1) (v.y.s.2.1 - 1) (v.y.s.2.2 - 1), v.y.f.v, v.y.t.v] :: Ow 1 (p, l, c) (u8s bs) ::
        Im 1 (slA v.y.s.1 1 v.y.s.2.2 1, v.y.s.2.1 - 1, v.y.s.2.2 - 1) (strs r) :: Im 1 v.y.n (nums N) :: Im 1 v.y.f (bools Fs) :: Tb B v.y.t Ts :: L) h3 → St (WB w (bs, ⟨N, r, Fs, Ts⟩) :: L) h3 := by
      intro bs p l c h3 S4
      have S5 : St (Bx w (wcells a b ⟨(p, l, c), v.y.n, (slA v.y.s.1 1 v.y.s.2.2 1, v.y.s.2.1 - 1, v.y.s.2.2 - 1), v.y.f, v.y.t⟩) :: Ow 1 (p, l, c) (u8s bs) :: Im 1 v.y.n (nums N) :: Im 1 (slA v.y.s.1 1 v.y.s.2.2 1, v.y.s.2.1 - 1, v.y.s.2.2 - 1) (strs r) :: Im 1 v.y.f (bools Fs) :: Tb B v.y.t Ts :: L) h3 := S4.to
      exact WB.cl _ a b B S5
    cases long with
    | true =>
      refine ifT rfl ?_
      refine St.bytes u_str u_sl u_u8 S2 fun cc h2 S3 => ⟨_, _, _, rfl, ?_⟩
      refine longS (s := v.b) (t := (some (top h1), x.length, cc)) S3 (S3.osl 1 v.b) S3.sl hb (by omega) fun p l c h3 S4 => ⟨_, _, _, rfl, S4.put1 w 0 (by simp) rfl fun h4 S5 => ?_⟩
      simp only [List.set_cons_succ, List.set_cons_zero] at S5
      exact (hK h4).1 _ rfl (fin _ p l c h4 S5.to)
    | false =>
      refine ifF rfl ?_
      refine shortS (s := v.b) S2 (S2.osl 1 v.b) hb fun p l c h3 S4 => ⟨_, _, _, _, rfl, S4.put1 w 0 (by simp) rfl fun h4 S5 => ?_⟩
      simp only [List.set_cons_succ, List.set_cons_zero] at S5
      simp only [Bool.false_eq_true, if_false] at hK
      by_cases hg : x.length > 255
      · rw [if_pos hg] at hK
        rw [decide_eq_false (by omega)]
        exact (hK h4).2 rfl ⟨_, fin (if x.length > 255 then out else out ++ octsN 1 x.length ++ x) p l c h4 S5.to⟩
      · rw [if_neg hg] at hK S5
        rw [decide_eq_true (by omega)]
        exact (hK h4).1 _ rfl (fin _ p l c h4 S5.to)
theorem wtableS {w : Addr} {z : Oct × PM} (S0 : St (WB w z :: L) h) (ht : smallP 8 z.2.T) (hb : z.1.length < 1099511627776)
    (hK : WK K L w (match tableP z.2.T with
    | none => none
    | some b => some (z.1 ++ octsN 4 b.length ++ b, { z.2 with T := [] }))) :
    CallsH P F.qbn [.pointer (some w)] K h := by
  obtain ⟨v, a, b, B, S⟩ := WB.op S0
  obtain ⟨out, N, Ss, Fs, Ts⟩ := z
  simp only at S ht hb hK
  refine qbn.ok ?_
  unfold qbn.p0
  simp only [bd, someE, rdS (S.rcc w 1 5 rfl)]
  have hl := rowsP_lenD 8 Ts
  refine tappS (B := B) (t := v.y.t) (fs := Ts) (s := (none, 0, 0)) (bs := []) (S.imNil 1 0) (List.mem_cons_self ..) ht (by simp) fun p l c h1 S1 => ⟨_, _, _, _, rfl, ?_⟩
  simp only [rdS (S1.rc w 0 rfl)]
  refine longS (s := v.b) (t := (p, l, c)) S1 (S1.osl 1 v.b) S1.sl hb (by simp only [List.nil_append, tableP]; omega) fun p2 l2 c2 h2 S2 => ⟨_, _, _, rfl, S2.put1 w 0 (by simp) rfl fun h3 S3 => S3.put2 w 1 5 (by simp) rfl fun h4 S4 => ?_⟩
  simp only [List.set_cons_succ, List.set_cons_zero, List.nil_append] at S4
  have S5 : St (Bx w (wcells a b ⟨(p2, l2, c2), v.y.n, v.y.s, v.y.f, (none, 0, 0)⟩) :: Ow 1 (p2, l2, c2) (u8s (out ++ octsN 4 ((tableP Ts).getD []).length ++ (tableP Ts).getD [])) :: Im 1 v.y.n (nums N) :: Im 1 v.y.s (strs Ss) :: Im 1 v.y.f (bools Fs) :: Tb (fun _ => False) (none, 0, 0) [] :: L) h4 := (tbNil 0 S4).to
  have S6 : St (WB w (out ++ octsN 4 ((tableP Ts).getD []).length ++ (tableP Ts).getD [], ⟨N, Ss, Fs, []⟩) :: L) h4 := WB.cl _ a b _ S5
  cases e : tableP Ts with
  | none => rw [e] at hK; exact (hK h4).2 rfl ⟨_, S6⟩
  | some bs => rw [e] at hK S6; exact (hK h4).1 _ rfl S6
theorem orLast_len (o : Oct) (v : UInt8) : (orLast o v).length = o.length := by simp [orLast]
theorem packGo_len : ∀ (l : List Bool) (i : Nat) (o : Oct), (packGo l i o).length ≤ o.length + l.length
  | [], _, o => by simp [packGo]
  | b :: r, i, o => by
    unfold packGo
    have := packGo_len r (i + 1) (if b then orLast (if i % 8 = 0 then o ++ [0] else o) (bitO (i % 8)) else (if i % 8 = 0 then o ++ [0] else o))
    have h2 : (if b then orLast (if i % 8 = 0 then o ++ [0] else o) (bitO (i % 8)) else (if i % 8 = 0 then o ++ [0] else o)).length ≤ o.length + 1 := by
      split <;> split <;> simp [orLast_len]
    simp only [List.length_cons]
    omega
def WBo (w : Addr) (v : MV) (a b : Int) (o : Oct) : Asr := ex fun s : SV => sep (Bx w (wcells a b ⟨s, v⟩)) (Ow 1 s (u8s o))
theorem WBo.op {w : Addr} {v : MV} {a b : Int} {o : Oct} (S : St (WBo w v a b o :: L) h) : ∃ s, St (Bx w (wcells a b ⟨s, v⟩) :: Ow 1 s (u8s o) :: L) h := by
  obtain ⟨s, S⟩ := S.ex
  exact ⟨s, S.split⟩
theorem WBo.cl {w : Addr} {v : MV} {a b : Int} {o : Oct} (s : SV) (S : St (Bx w (wcells a b ⟨s, v⟩) :: Ow 1 s (u8s o) :: L) h) : St (WBo w v a b o :: L) h := St.ex' s S.join
theorem pack_loop {w : Addr} {v : MV} {a b : Int} {n : Nat} {fl : List Bool} {t : SV} {res : Oct} (hn : fl.length = n) (hn2 : n < 1000000) (hK : ∀ h', St (WBo w v a b res :: L) h' → qam.j1 K (some w) n h') [ht : In (Im 1 t) L (bools fl)] :
    ∀ (fuel i : Nat) (o : Oct) (h : Heap), n - i < fuel → i ≤ n → o.length < 1099511627776 + i → (i % 8 ≠ 0 → o ≠ []) → packGo (fl.drop i) i o = res → St (WBo w v a b o :: L) h →
      qam.L2 K fuel (some w) n t.1 t.2.1 t.2.2 ((t.2.1 : Nat) : Int) i h
  | 0, _, _, _, hf, _, _, _, _, _ => absurd hf (Nat.not_lt_zero _)
  | fuel + 1, i, o, h, hf, hi, ho, hne, hg, S => by
    unfold qam.L2
    have st := S.isl 1 t
    have lt := st.1
    simp only [bools, List.length_map, Nat.mul_one] at lt
    by_cases hlt : i < n
    · have hif : i < fl.length := by omega
      refine ifT (by simp; omega) ?_
      refine ixV st (w := .bool fl[i]) rfl (by simp [bools, hif]) fun q eq cq => ?_
      simp only [rdB cq]
      refine ⟨by decide, ?_⟩
      rw [tmod8]
      have hdrop : fl.drop i = fl[i] :: fl.drop (i + 1) := List.drop_eq_getElem_cons hif
      rw [hdrop] at hg
      unfold packGo at hg
      have fin : ∀ (o' : Oct) (h' : Heap), o' ≠ [] → o'.length < 1099511627776 + (i + 1) → o' = (if i % 8 = 0 then o ++ [0] else o) → St (WBo w v a b o' :: L) h' →
          qam.j4 K (qam.L2 K fuel) (some w) n i fl[i] t.1 t.2.1 t.2.2 ((t.2.1 : Nat) : Int) i h' := by
        intro o' h' hne' ho' e' S'
        rw [← e'] at hg
        unfold qam.j4
        have next : ∀ (o2 : Oct) (h2 : Heap), o2.length = o'.length → (if fl[i] then orLast o' (bitO (i % 8)) else o') = o2 → St (WBo w v a b o2 :: L) h2 → qam.j3 K (qam.L2 K fuel) (some w) n t.1 t.2.1 t.2.2 ((t.2.1 : Nat) : Int) i h2 := by
          intro o2 h2 hl2 e2 S2
          rw [e2] at hg
          unfold qam.j3
          rw [wsucc (by omega)]
          exact pack_loop hn hn2 hK fuel (i + 1) o2 h2 (by omega) (by omega) (by omega) (fun _ e => by subst e; simp at hl2; exact hne' (List.eq_nil_of_length_eq_zero hl2.symm)) hg S2
        cases hb : fl[i] with
        | false => exact ifF rfl (next o' h' rfl (by rw [hb]; rfl) S')
        | true =>
          refine ifT rfl ?_
          obtain ⟨s, S1⟩ := WBo.op S'
          have e8 : IntKind.u64.wrap ((i % 8 : Nat) : Int) = ((i % 8 : Nat) : Int) := wrap_len (by omega)
          have hpos := List.length_pos_iff.2 hne'
          have ls := (S1.ows 1 s).1
          simp only [u8s_length, Nat.mul_one] at ls
          have el : IntKind.i64.wrap (((s.2.1 : Nat) : Int) - 1) = ((o'.length - 1 : Nat) : Int) := by rw [wrapI (by omega) (by omega)]; omega
          simp only [someE, tmod8, e8, rdS (S1.rc w 0 rfl), el]
          refine ⟨by decide, by omega, ?_⟩
          have hol : o'.length - 1 < o'.length := by omega
          refine ixV (S1.osl 1 s) (w := .int .u8 (o'[o'.length - 1].toNat : Int)) rfl (by simp [u8s, hol]) fun q2 eq2 cq2 => ?_
          simp only [rdN cq2]
          rw [shl_u8 (by omega), or_u8]
          refine (S1.get (Ow 1 s)).owSet (n := o'.length - 1) rfl (by rw [u8s_length]; exact hol) rfl fun h2 S2 => ?_
          have es : (u8s o').set (o'.length - 1) (.int .u8 (((o'[o'.length - 1] ||| bitO (i % 8)).toNat : Nat) : Int)) = u8s (orLast o' (bitO (i % 8))) := by
            simp [u8s, orLast, List.map_set, hol]
          rw [es] at S2
          exact next _ h2 (orLast_len _ _) (by rw [hb]; rfl) (WBo.cl s S2.to)
      by_cases h8 : i % 8 = 0
      · refine ifT (by simp; omega) ?_
        obtain ⟨s, S1⟩ := WBo.op S
        simp only [someE, rdS (S1.rc w 0 rfl), bd]
        have ls := (S1.ows 1 s).1
        simp only [u8s_length, Nat.mul_one] at ls
        refine St.push1 sl_uint8 S1 w 0 s (w := .int .u8 0) rfl (by simp) (by omega) (by omega) fun p c h2 S2 => ?_
        simp only [List.set_cons_zero] at S2
        have e : u8s o ++ [.int .u8 0] = u8s (o ++ [0]) := by simp [u8s]
        rw [e] at S2
        exact fin (o ++ [0]) h2 (by simp) (by simp; omega) (by rw [if_pos h8]) (WBo.cl (p, s.2.1 + 1, c) S2)
      · refine ifF (by simp; omega) ?_
        exact fin o h (hne h8) (by omega) (by rw [if_neg h8]) S
    · refine ifF (by simp; omega) ?_
      rw [List.drop_eq_nil_of_le (by omega), packGo] at hg
      subst hg
      exact hK h S
theorem packS {w : Addr} {z : Oct × PM} {n : Nat} (S0 : St (WB w z :: L) h) (hn : n < 1000000) (hb : z.1.length < 1099511627776) (hK : WK K L w (packW n z)) :
    CallsH P F.qam [.pointer (some w), .int .i64 n] K h := by
  obtain ⟨v, a, b, B, S⟩ := WB.op S0
  obtain ⟨out, N, Ss, Fs, Ts⟩ := z
  unfold packW at hK
  simp only at S hb hK
  refine qam.ok ?_
  unfold qam.p0
  have lF := (S.isl 1 v.y.f).1
  have cF := S.ile 1 v.y.f
  simp only [bools, List.length_map, Nat.mul_one] at lF
  simp only [bd, someE, rdS (S.rcc w 1 4 rfl)]
  by_cases hl : Fs.length < n
  · rw [if_pos hl] at hK
    exact ifT (by simp; omega) ((hK h).2 rfl ⟨_, S0⟩)
  · rw [if_neg hl] at hK
    refine ifF (by simp; omega) ⟨⟨by omega, by omega⟩, ?_⟩
    simp only [Int.toNat_natCast, slA_zero]
    have S1 := S.itake v.y.f (n := n) (by omega)
    have et : (bools Fs).take n = bools (Fs.take n) := by simp [bools]
    rw [et] at S1
    have S2 : St (WBo w v.y a b out :: Im 1 (v.y.f.1, n, v.y.f.2.2) (bools (Fs.take n)) :: Im 1 v.y.n (nums N) :: Im 1 v.y.s (strs Ss) :: Im 1 v.y.f (bools Fs) :: Tb B v.y.t Ts :: L) h := WBo.cl v.b S1.to
    refine ⟨n + 1, pack_loop (t := (v.y.f.1, n, v.y.f.2.2)) (fl := Fs.take n) (res := packGo (Fs.take n) 0 out) (by simp; omega) hn (fun h2 S3 => ?_) _ 0 out h (by omega) (by omega) (by omega) (fun e => absurd rfl e) rfl S2⟩
    unfold qam.j1
    obtain ⟨s, S4⟩ := WBo.op S3
    simp only [someE, rdS (S4.rcc w 1 4 rfl), Int.toNat_natCast]
    have S5 := S4.idrop v.y.f (n := n) (by omega)
    have ed : (bools Fs).drop n = bools (Fs.drop n) := by simp [bools]
    rw [ed] at S5
    refine ⟨⟨by omega, by omega⟩, S5.put2 w 1 4 (by simp) rfl fun h3 S6 => (hK h3).1 _ rfl ?_⟩
    simp only [List.set_cons_succ, List.set_cons_zero] at S6
    have S7 : St (Bx w (wcells a b ⟨s, v.y.n, v.y.s, (slA v.y.f.1 n v.y.f.2.2 1, v.y.f.2.1 - n, v.y.f.2.2 - n), v.y.t⟩) :: Ow 1 s (u8s (packGo (Fs.take n) 0 out)) :: Im 1 v.y.n (nums N) :: Im 1 v.y.s (strs Ss) :: Im 1 (slA v.y.f.1 n v.y.f.2.2 1, v.y.f.2.1 - n, v.y.f.2.2 - n) (bools (Fs.drop n)) :: Tb B v.y.t Ts :: L) h3 := S6.to
    exact WB.cl _ a b B S7
theorem woneS {w : Addr} {z : Oct × PM} {c : UInt8} (S : St (WB w z :: L) h) (hc : letter c) (hz : smallM z.2) (hb : z.1.length < 1099511627776) (hK : WK K L w (oneW c z)) :
    CallsH P F.qbe [.pointer (some w), .int .u8 (c.toNat : Int)] K h := by
  refine qbe.ok ?_
  unfold qbe.p0
  have e115 := eb8 c 115
  have e108 := eb8 c 108
  have e116 := eb8 c 116
  simp only [show ((116 : UInt8).toNat : Int) = 116 from rfl, show ((115 : UInt8).toNat : Int) = 115 from rfl, show ((108 : UInt8).toNat : Int) = 108 from rfl] at e115 e108 e116
  simp only [bd]
  unfold qbe.j1
  simp only [bd]
  rw [e115, e108, e116]
  unfold oneW at hK
  have ret : ∀ (b : Bool) (h' : Heap), K (.bool b) h' → ∃ b3, (Value.bool b) = .bool b3 ∧ K (.bool b3) h' := fun b h' k => ⟨b, rfl, k⟩
  by_cases k1 : c = 115
  · simp only [if_pos k1] at hK
    refine ifT (by simp [k1]) (ifT (by simp [k1]) ?_)
    rw [decide_eq_false (by rw [k1]; decide)]
    refine textS S (fun s hs => hz.sl s hs) hb fun h' => ⟨fun z' e S' => ⟨_, rfl, (hK h').1 z' ?_ S'⟩, fun e S' => ⟨_, rfl, (hK h').2 ?_ S'⟩⟩
    all_goals (rw [← e]; cases z.2.S <;> simp)
  simp only [if_neg k1] at hK
  refine ifF (by simp [k1]) ?_
  by_cases k2 : c = 108
  · simp only [if_pos k2] at hK
    refine ifT (by simp [k2]) ?_
    rw [decide_eq_true k2]
    refine textS S (fun s hs => hz.sl s hs) hb fun h' => ⟨fun z' e S' => ⟨_, rfl, (hK h').1 z' ?_ S'⟩, fun e S' => ⟨_, rfl, (hK h').2 ?_ S'⟩⟩
    all_goals (rw [← e]; cases z.2.S <;> simp)
  simp only [if_neg k2] at hK
  refine ifF (by simp [k2]) ?_
  by_cases k3 : c = 116
  · simp only [if_pos k3] at hK
    refine ifT (by simp [k3]) ?_
    exact wtableS S hz.t hb fun h' => ⟨fun z' e S' => ⟨_, rfl, (hK h').1 z' e S'⟩, fun e S' => ⟨_, rfl, (hK h').2 e S'⟩⟩
  simp only [if_neg k3] at hK
  refine ifF (by simp [k3]) ?_
  have hd : 49 ≤ c.toNat ∧ c.toNat ≤ 56 := by
    rcases hc with e | e | e | e
    · exact absurd e k1
    · exact absurd e k2
    · exact absurd e k3
    · exact e
  have ew : IntKind.i64.wrap (IntKind.u8.wrap ((c.toNat : Int) - 48)) = ((c.toNat - 48 : Nat) : Int) := by
    rw [IntKind.wrap_u8', wrapI (by omega) (by omega)]; omega
  rw [ew]
  exact numberS S hd hz.n64 hb fun h' => ⟨fun z' e S' => ⟨_, rfl, (hK h').1 z' e S'⟩, fun e S' => ⟨_, rfl, (hK h').2 e S'⟩⟩
theorem oneW_small {c : UInt8} {z z' : Oct × PM} (hz : smallM z.2) (h : oneW c z = some z') (hc : letter c) : smallM z'.2 ∧ z'.1.length ≤ z.1.length + 1073741832 := by
  obtain ⟨out, N, Ss, Fs, Ts⟩ := z
  unfold oneW at h
  split at h
  · cases Ss with
    | nil => cases h
    | cons s r =>
      simp only at h
      split at h
      · cases h
      · cases h
        have := hz.sl s (List.mem_cons_self ..)
        exact ⟨⟨hz.n, hz.n64, by have := hz.s; simp at this ⊢; omega, fun s' hs => hz.sl s' (List.mem_cons_of_mem _ hs), hz.f, hz.t, hz.tl⟩, by simp [octsN_length]; omega⟩
  split at h
  · cases Ss with
    | nil => cases h
    | cons s r =>
      cases h
      have := hz.sl s (List.mem_cons_self ..)
      exact ⟨⟨hz.n, hz.n64, by have := hz.s; simp at this ⊢; omega, fun s' hs => hz.sl s' (List.mem_cons_of_mem _ hs), hz.f, hz.t, hz.tl⟩, by simp [octsN_length]; omega⟩
  split at h
  · cases ht : tableP Ts with
    | none => simp only [ht] at h; cases h
    | some b =>
      simp only [ht] at h
      cases h
      have := rowsP_len ht
      exact ⟨⟨hz.n, hz.n64, hz.s, hz.sl, hz.f, fun f hf => (by cases hf), by simp⟩, by simp [octsN_length]; omega⟩
  · cases N with
    | nil => cases h
    | cons v r =>
      simp only at h
      split at h
      · cases h
        have hd : c.toNat < 256 := c.toNat_lt
        exact ⟨⟨by have := hz.n; simp at this ⊢; omega, fun v' hv => hz.n64 v' (List.mem_cons_of_mem _ hv), hz.s, hz.sl, hz.f, hz.t, hz.tl⟩, by simp [octsN_length]; omega⟩
      · cases h
theorem packW_small {n : Nat} {z z' : Oct × PM} (hz : smallM z.2) (h : packW n z = some z') (hn : n < 1000) : smallM z'.2 ∧ z'.1.length ≤ z.1.length + 1000 := by
  unfold packW at h
  split at h
  · cases h
  · cases h
    have := packGo_len (z.2.F.take n) 0 z.1
    exact ⟨⟨hz.n, hz.n64, hz.s, hz.sl, by have := hz.f; simp; omega, hz.t, hz.tl⟩, by simp at this ⊢; omega⟩
theorem App_loop {w : Addr} {t : SV} {res : Option (Oct × PM)} (hres : ∀ z h', res = some z → smallM z.2 → z.1.length < 1099511627776 → St (WB w z :: L) h' → qan.j2 K t.1 t.2.1 t.2.2 true (some w) h') (hnone : ∀ z h', res = none → St (WB w z :: L) h' → qan.j2 K t.1 t.2.1 t.2.2 false (some w) h') :
    ∀ (fuel : Nat) (f : Oct) (z : Oct × PM) (h : Heap), goodForm f → f.length < fuel → smallM z.2 → z.1.length + f.length * 1073742000 < 1099511627776 → formW fuel f z = res → St (WB w z :: L) h →
      qan.L4 K (fuel + 1) t.1 t.2.1 t.2.2 f true (some w) h
  | 0, _, _, _, _, hf, _, _, _, _ => absurd hf (Nat.not_lt_zero _)
  | fuel + 1, f, z, h, g, hf, hz, hb, he, S => by
    unfold qan.L4
    unfold formW at he
    by_cases e0 : f = []
    · rw [if_pos e0] at he
      refine ifF (by simp [e0]) ?_
      unfold qan.j5
      exact ifF rfl (hres z h he.symm hz (by omega) S)
    rw [if_neg e0] at he
    have hpos := List.length_pos_iff.2 e0
    have hfl := flagsP_le f
    refine ifT (by simp [e0]) ?_
    unfold qan.j5
    refine ifT rfl (flags.spec (by have := g.2; omega) ⟨_, rfl, ?_⟩)
    have stop : ∀ (n : Nat) (h' : Heap), n ≤ f.length → res = none → (∃ z, St (WB w z :: L) h') → qan.j6 K (qan.L4 K (fuel + 1)) t.1 t.2.1 t.2.2 f false (some w) n h' := by
      intro n h' hn e ⟨z', S'⟩
      unfold qan.j6
      refine ⟨⟨by omega, by omega⟩, ?_⟩
      simp only [bd, Int.toNat_natCast]
      unfold qan.L4 qan.j5
      exact ⟨fun _ => ifF rfl (hnone z' h' e S'), fun _ => ifF rfl (hnone z' h' e S')⟩
    have go : ∀ (n : Nat) (h' : Heap) (z' : Oct × PM), 0 < n → n ≤ f.length → formW fuel (f.drop n) z' = res → smallM z'.2 → z'.1.length ≤ z.1.length + 1073742000 → St (WB w z' :: L) h' → qan.j6 K (qan.L4 K (fuel + 1)) t.1 t.2.1 t.2.2 f true (some w) n h' := by
      intro n h' z' hn0 hn e hz' hb' S'
      unfold qan.j6
      refine ⟨⟨by omega, by omega⟩, ?_⟩
      simp only [bd, Int.toNat_natCast]
      exact App_loop hres hnone fuel (f.drop n) z' h' (g.drop n) (by rw [List.length_drop]; omega) hz' (by rw [List.length_drop]; omega) e S'
    by_cases h1 : 0 < flagsP f
    · rw [if_pos h1] at he
      refine ifT (by simp; omega) ?_
      have g2 := g.2
      refine packS S (by omega) (by omega) fun h' => ⟨fun z' e S' => ⟨_, rfl, ?_⟩, fun e S' => ⟨_, rfl, ?_⟩⟩
      · rw [e] at he
        have sm := packW_small hz e (by omega)
        exact go _ h' z' h1 hfl he sm.1 (by omega) S'
      · rw [e] at he
        exact stop _ h' hfl he.symm S'
    · rw [if_neg h1] at he
      refine ifF (by simp; omega) ⟨by omega, by omega, ?_⟩
      have hmem : f.getD 0 0 ∈ f := by
        cases f with
        | nil => exact absurd rfl e0
        | cons c t => simp
      have hc : letter (f.getD 0 0) := (g.1 _ hmem).resolve_left (flagsP_zero h1 e0)
      have elb : lb f 0 = ((f.getD 0 0).toNat : Int) := rfl
      rw [elb]
      refine woneS S hc hz (by omega) fun h' => ⟨fun z' e S' => ⟨_, rfl, ?_⟩, fun e S' => ⟨_, rfl, ?_⟩⟩
      · rw [e] at he
        have sm := oneW_small hz e hc
        exact go 1 h' z' (by omega) hpos he sm.1 (by omega) S'
      · rw [e] at he
        exact stop 1 h' hpos he.symm S'
theorem bld_writer' : (fun a b c d e f : Value => Instr.fill (Lift.places P (P.underlying T.meth_writer)) (zcl P T.meth_writer) [(1, .agg (List.toArray [a, b, c, d, e, f]))]) = fun a b c d e f => some (List.toArray [.slice none 0 0, a, b, c, d, e, f]) := by kernel_rfl
theorem bld_writer (a b c d e f : Value) : bld P T.meth_writer [(1, .agg (List.toArray [a, b, c, d, e, f]))] [.slice none 0 0, a, b, c, d, e, f] := congrFun (congrFun (congrFun (congrFun (congrFun (congrFun bld_writer' a) b) c) d) e) f
theorem mappS {t : SV} {bs : Oct} {a b : Int} {y : MV} {x : PM} {B : Nat → Prop} (S : St L h) [mt : In (fun b => Im 1 t (u8s b)) L bs] [In (Im 1 y.n) L (nums x.N)] [In (Im 1 y.s) L (strs x.S)] [In (Im 1 y.f) L (bools x.F)] [In (Tb B y.t) L x.T] (hx : smallM x) (hb : bs.length < 1073741824)
    (ha : -9223372036854775808 ≤ a ∧ a < 9223372036854775808) (hbb : -9223372036854775808 ≤ b ∧ b < 9223372036854775808)
    (hK : ∀ p l c h', St (Ow 1 (p, l, c) (u8s (bs ++ (methW a b x).getD [])) :: L) h' → K (.tuple #[.slice p l c, .bool (methW a b x).isSome]) h') :
    CallsH P F.qan [.slice t.1 t.2.1 t.2.2, .agg (List.toArray (mcells a b y))] K h := by
  refine qan.ok ?_
  unfold qan.p0
  simp only [bd]
  have S1 := S.al (mcells a b y) T.api_Method
  generalize al h (mcells a b y).toArray T.api_Method = h1 at *
  generalize top h = m at *
  simp only [rdN (S1.rc m 0 rfl), rdN (S1.rc m 1 rfl)]
  unfold methW at hK
  have no : ∀ h', St L h' → (∀ p l c h', St (Ow 1 (p, l, c) (u8s bs) :: L) h' → K (.tuple #[.slice p l c, .bool false]) h') → CallsH P F.qbg [.slice t.1 t.2.1 t.2.2] (fun v8 h9 => ∃ a10 a10l a10c, v8 = .slice a10 a10l a10c ∧ K (.tuple #[.slice a10 a10l a10c, .bool false]) h9) h' := by
    intro h' S' k
    exact cloneS S' (S'.iml mt.mem).1 (by omega) fun p l c h2 S2 => ⟨_, _, _, rfl, k p l c h2 S2⟩
  refine Form.spec fun h2 k2 => ⟨_, _, rfl, ?_⟩
  have S2 := S1.kept k2
  cases hf : formP (a, b) with
  | none =>
    simp only [hf] at hK
    exact ifT rfl (no h2 S2.tl (by simpa using hK))
  | some f =>
    simp only [hf] at hK
    have g := formP_good hf
    refine ifF rfl ⟨_, S2.rall m 6 rfl, _, bld_writer _ _ _ _ _ _, ?_⟩
    have S3 := S2.al (wcells a b ⟨(none, 0, 0), y⟩) T.meth_writer
    generalize al h2 (wcells a b ⟨(none, 0, 0), y⟩).toArray T.meth_writer = h3 at *
    generalize top h2 = w at *
    simp only [rdN (S3.rc m 0 rfl), rdN (S3.rc m 1 rfl), wrap_nat64, someE]
    have go : ∀ (p : OA) (l c : Nat) (h' : Heap), St (Bx w (wcells a b ⟨(p, l, c), y⟩) :: Ow 1 (p, l, c) (u8s (octsN 2 (nat64 a) ++ octsN 2 (nat64 b))) :: L) h' → qan.j1 K t.1 t.2.1 t.2.2 f (some f).isSome (some w) h' := by
      intro p l c h' S'
      unfold qan.j1
      have i1 : In (Im 1 y.n) L (nums x.N) := inferInstance
      have i2 : In (Im 1 y.s) L (strs x.S) := inferInstance
      have i3 : In (Im 1 y.f) L (bools x.F) := inferInstance
      have i4 : In (Tb B y.t) L x.T := inferInstance
      have S4 := ((((tbDup (B := B) (s := y.t) (fs := x.T) S').idup 1 y.f).idup 1 y.s).idup 1 y.n)
      have S5 : St (Bx w (wcells a b ⟨(p, l, c), y⟩) :: Ow 1 (p, l, c) (u8s (octsN 2 (nat64 a) ++ octsN 2 (nat64 b))) :: Im 1 y.n (nums x.N) :: Im 1 y.s (strs x.S) :: Im 1 y.f (bools x.F) :: Tb B y.t x.T :: L) h' := S4.to
      have S6 : St (WB w (octsN 2 (nat64 a) ++ octsN 2 (nat64 b), x) :: L) h' := WB.cl ⟨(p, l, c), y⟩ a b B S5
      refine ⟨f.length + 1 + 1, App_loop (t := t) (res := formW (f.length + 1) f (octsN 2 (nat64 a) ++ octsN 2 (nat64 b), x)) (fun z h7 e hz hzb S7 => ?_) (fun z h7 e S7 => ?_) _ f _ h' g (by omega) hx (by have := g.2; simp [octsN_length]; omega) rfl S6⟩
      · unfold qan.j2
        refine ifF' rfl ?_
        simp only [e] at hK
        obtain ⟨v, a', b', B', S8⟩ := WB.op S7
        simp only [someE, rdS (S8.rcc w 1 2 rfl), rdS (S8.rcc w 1 3 rfl), rdS (S8.rcc w 1 4 rfl), rdS (S8.rcc w 1 5 rfl)]
        have l1 := (S8.isl 1 v.y.n).1
        have l2 := (S8.isl 1 v.y.s).1
        have l3 := (S8.isl 1 v.y.f).1
        have l4 := tbLen S8 (B := B') (s := v.y.t)
        simp only [nums, strs, bools, List.length_map, Nat.mul_one] at l1 l2 l3
        have z1 := hz.n
        have z2 := hz.s
        have z3 := hz.f
        have z4 := hz.tl
        have es : IntKind.i64.wrap ((IntKind.i64.wrap ((IntKind.i64.wrap (((v.y.n.2.1 : Nat) : Int) + ((v.y.s.2.1 : Nat) : Int))) + ((v.y.f.2.1 : Nat) : Int))) + ((v.y.t.2.1 : Nat) : Int)) = ((z.2.N.length + z.2.S.length + z.2.F.length + z.2.T.length : Nat) : Int) := by
          rw [wrapI (n := ((v.y.n.2.1 : Nat) : Int) + ((v.y.s.2.1 : Nat) : Int)) (by omega) (by omega), wrapI (n := _ + ((v.y.f.2.1 : Nat) : Int)) (by omega) (by omega), wrapI (by omega) (by omega)]
          omega
        rw [es]
        unfold qan.j3
        by_cases hall : z.2.N = [] ∧ z.2.S = [] ∧ z.2.F = [] ∧ z.2.T = []
        · rw [if_pos hall] at hK
          simp only [Option.getD_some, Option.isSome_some] at hK
          obtain ⟨q1, q2, q3, q4⟩ := hall
          refine ifF (by rw [q1, q2, q3, q4]; rfl) ?_
          simp only [someE, rdS (S8.rc w 0 rfl)]
          refine ⟨?_, ?_⟩
          all_goals
            refine cloneS S8 (S8.tl.tl.tl.tl.tl.tl.iml mt.mem).1 (by omega) fun p l c h8 S9 => ⟨_, _, _, rfl, ?_⟩
            try simp only [rdS (S9.rc w 0 rfl)]
            refine appS (s := (p, l, c)) S9 (Src.slice (S9.osl 1 v.b) (u8s_one _)) (by omega) fun p l c h9 S10 => ⟨_, _, _, rfl, hK p l c h9 S10.to⟩
        · rw [if_neg hall] at hK
          refine ifT ?_ (no h7 S7.tl (by simpa using hK))
          refine decide_eq_true ?_
          rcases Nat.eq_zero_or_pos (z.2.N.length + z.2.S.length + z.2.F.length + z.2.T.length) with e0 | e0
          · exact absurd ⟨List.eq_nil_of_length_eq_zero (by omega), List.eq_nil_of_length_eq_zero (by omega), List.eq_nil_of_length_eq_zero (by omega), List.eq_nil_of_length_eq_zero (by omega)⟩ hall
          · omega
      · unfold qan.j2
        refine ifT' rfl ?_
        simp only [e] at hK
        unfold qan.j3
        exact ifT rfl (no h7 S7.tl (by simpa using hK))
    have slN : ∀ h : Heap, Sl 1 h none 0 (u8s []) := fun h => ⟨rfl, rfl⟩
    repeat' (with_reducible refine And.intro ?_ ?_)
    all_goals
      refine intS (s := (none, 0, 0)) (n := 2) (bs := []) S3 (slN _) (by simp) (by omega) (by omega) fun p l c h4 S4 => ⟨_, _, _, rfl, ?_⟩
      try simp only [rdN (S4.rc m 1 rfl), wrap_nat64]
      refine intS (s := (p, l, c)) (n := 2) S4 S4.sl (by simp [octsN_length]) (by omega) (by omega) fun p2 l2 c2 h5 S5 => ⟨_, _, _, rfl, S5.put1 w 0 (by simp) rfl fun h6 S6 => ?_⟩
      simp only [List.set_cons_zero, List.nil_append] at S6
      exact go p2 l2 c2 h6 S6.to
end
end Go.Proofs.Ytjkiaeccjelklaa.Pr
end
section
set_option linter.unusedVariables false
set_option maxRecDepth 100000
namespace Go.Proofs.Ytjkiaeccjelklaa.Pr
open Go Go.Lift Go.Proofs
theorem refBasic.spec {K : KT} {i : Int} {h : Heap} (hK : K (.tuple #[.string (mkS ((formP (60, i)).getD [])), .bool (formP (60, i)).isSome]) h) : CallsH P F.qap [.int .i64 i] K h := by
  refine qap.ok ?_
  unfold qap.p0 qap.j1 qap.j2 qap.j3
  simp only [bd]
  repeat' first | with_reducible refine And.intro ?_ ?_ | with_reducible intro _
  all_goals (simp only [beq_iff_eq, beq_eq_false_iff_ne, ne_eq] at *)
  all_goals first
    | (subst_vars; exact hK)
    | omega
    | (have e : formP (60, i) = none := by simp [formP, get?, fnd, knownL, *]
       rw [e] at hK; exact hK)
theorem refForm.spec {K : KT} {c i : Int} {h : Heap} (hK : K (.tuple #[.string (mkS ((formP (c, i)).getD [])), .bool (formP (c, i)).isSome]) h) : CallsH P F.qaq [.int .i64 c, .int .i64 i] K h := by
  refine qaq.ok ?_
  unfold qaq.p0 qaq.j1 qaq.j2 qaq.j3
  simp only [bd]
  repeat' first | with_reducible refine And.intro ?_ ?_ | with_reducible intro _
  all_goals (simp only [beq_iff_eq, beq_eq_false_iff_ne, ne_eq] at *)
  all_goals first
    | (subst_vars; exact hK)
    | omega
    | (have e : formP (c, i) = none := by simp [formP, get?, fnd, knownL, *]
       rw [e] at hK; exact hK)
    | (subst_vars; refine refBasic.spec ?_; exact ⟨_, _, rfl, hK⟩)
end Go.Proofs.Ytjkiaeccjelklaa.Pr
end
section
set_option linter.unusedVariables false
set_option linter.unusedSimpArgs false
namespace Go.Proofs.Ytjkiaeccjelklaa.Pr
open Go Go.Lift Go.Proofs
section
variable {K : KT} {L R : List Asr} {h : Heap}
theorem sameTab0 {t u : SV} (ht : t.2.1 = 0) (hu : u.2.1 = 0) (hK : K (.bool true) h) : CallsH P F.qac [.slice t.1 t.2.1 t.2.2, .slice u.1 u.2.1 u.2.2] K h := by
  refine qac.ok ?_
  unfold qac.p0
  rw [ht, hu]
  refine ifF rfl ⟨1, ?_⟩
  unfold qac.L1
  exact ifF rfl hK
theorem take_eq_step {α : Type} [DecidableEq α] {l m : List α} (hl : l.length = m.length) {i : Nat} (h1 : i < l.length) (h2 : i < m.length) (ht : l.take i = m.take i) : (l[i] = m[i] ↔ l.take (i + 1) = m.take (i + 1)) := by
  have e1 := List.take_succ_eq_append_getElem h1
  have e2 := List.take_succ_eq_append_getElem h2
  rw [e1, e2, ht]
  exact ⟨fun e => by rw [e], fun e => (List.cons.inj (List.append_cancel_left e)).1⟩
theorem sm_F {a b : Addr} {y z : MV} {c1 c2 c3 c4 : Int} {l m : List Bool} (hl : l.length = m.length) (hb : l.length < 1000000) (S : St L h) {R1 R2 : List Asr} [Has (Bx a) L (mcells c1 c2 y) R1] [Has (Bx b) L (mcells c3 c4 z) R2] [In (Im 1 y.f) L (bools l)] [In (Im 1 z.f) L (bools m)] (hK : K (.bool (decide (l = m))) h) :
    ∀ (fuel i : Nat), l.length - i < fuel → i ≤ l.length → l.take i = m.take i → qaf.L4 K fuel a b i h
  | 0, _, hf, _, _ => absurd hf (Nat.not_lt_zero _)
  | fuel + 1, i, hf, hi, ht => by
    unfold qaf.L4
    have sl := S.isl 1 y.f
    have sm := S.isl 1 z.f
    have ll := sl.1
    have lm := sm.1
    simp only [bools, List.length_map, Nat.mul_one] at ll lm
    simp only [rdS (S.rc a 4 rfl), rdS (S.rc b 4 rfl)]
    by_cases hlt : i < l.length
    · have hm : i < m.length := by omega
      refine ifT (by simp; omega) ?_
      refine ixV sl (w := .bool l[i]) rfl (by simp [bools, hlt]) fun q eq cq => ?_
      simp only [rdB cq]
      refine ixV sm (w := .bool m[i]) rfl (by simp [bools, hm]) fun q2 eq2 cq2 => ?_
      simp only [rdB cq2, bd]
      have := take_eq_step hl hlt hm ht
      by_cases e : l[i] = m[i]
      · refine ifF (by simp [e]) ?_
        rw [wsucc (by omega)]
        exact sm_F hl hb S hK fuel (i + 1) (by omega) (by omega) (this.1 e)
      · refine ifT (by simp [e]) ?_
        rw [decide_eq_false (by intro x; subst x; exact e rfl)] at hK
        exact hK
    · refine ifF (by simp; omega) ?_
      rw [List.take_of_length_le (by omega), List.take_of_length_le (by omega)] at ht
      rw [decide_eq_true ht] at hK
      exact hK
theorem sm_S {a b : Addr} {y z : MV} {c1 c2 c3 c4 : Int} {l m : List Oct} (hl : l.length = m.length) (hb : l.length < 1000000) (S : St L h) {R1 R2 : List Asr} [Has (Bx a) L (mcells c1 c2 y) R1] [Has (Bx b) L (mcells c3 c4 z) R2] [In (Im 1 y.s) L (strs l)] [In (Im 1 z.s) L (strs m)] (hne : l ≠ m → K (.bool false) h) (heq : l = m → qaf.j3 K a b h) :
    ∀ (fuel i : Nat), l.length - i < fuel → i ≤ l.length → l.take i = m.take i → qaf.L5 K fuel a b i h
  | 0, _, hf, _, _ => absurd hf (Nat.not_lt_zero _)
  | fuel + 1, i, hf, hi, ht => by
    unfold qaf.L5
    have sl := S.isl 1 y.s
    have sm := S.isl 1 z.s
    have ll := sl.1
    have lm := sm.1
    simp only [strs, List.length_map, Nat.mul_one] at ll lm
    simp only [rdS (S.rc a 3 rfl), rdS (S.rc b 3 rfl)]
    by_cases hlt : i < l.length
    · have hm : i < m.length := by omega
      refine ifT (by simp; omega) ?_
      refine ixV sl (w := .string (mkS l[i])) rfl (by simp [strs, hlt]) fun q eq cq => ?_
      simp only [rdT cq]
      refine ixV sm (w := .string (mkS m[i])) rfl (by simp [strs, hm]) fun q2 eq2 cq2 => ?_
      simp only [rdT cq2, bd]
      have := take_eq_step hl hlt hm ht
      by_cases e : l[i] = m[i]
      · refine ifF (by simp [e]) ?_
        rw [wsucc (by omega)]
        exact sm_S hl hb S hne heq fuel (i + 1) (by omega) (by omega) (this.1 e)
      · exact ifT (by simp [e]) (hne (by intro x; subst x; exact e rfl))
    · refine ifF (by simp; omega) ?_
      rw [List.take_of_length_le (by omega), List.take_of_length_le (by omega)] at ht
      exact heq ht
theorem sm_N {a b : Addr} {y z : MV} {c1 c2 c3 c4 : Int} {l m : List Nat} (hl : l.length = m.length) (hb : l.length < 1000000) (S : St L h) {R1 R2 : List Asr} [Has (Bx a) L (mcells c1 c2 y) R1] [Has (Bx b) L (mcells c3 c4 z) R2] [In (Im 1 y.n) L (nums l)] [In (Im 1 z.n) L (nums m)] (hne : l ≠ m → K (.bool false) h) (heq : l = m → qaf.j2 K a b h) :
    ∀ (fuel i : Nat), l.length - i < fuel → i ≤ l.length → l.take i = m.take i → qaf.L6 K fuel a b i h
  | 0, _, hf, _, _ => absurd hf (Nat.not_lt_zero _)
  | fuel + 1, i, hf, hi, ht => by
    unfold qaf.L6
    have sl := S.isl 1 y.n
    have sm := S.isl 1 z.n
    have ll := sl.1
    have lm := sm.1
    simp only [nums, List.length_map, Nat.mul_one] at ll lm
    simp only [rdS (S.rc a 2 rfl), rdS (S.rc b 2 rfl)]
    by_cases hlt : i < l.length
    · have hm : i < m.length := by omega
      refine ifT (by simp; omega) ?_
      refine ixV sl (w := .int .u64 (l[i] : Int)) rfl (by simp [nums, hlt]) fun q eq cq => ?_
      simp only [rdN cq]
      refine ixV sm (w := .int .u64 (m[i] : Int)) rfl (by simp [nums, hm]) fun q2 eq2 cq2 => ?_
      simp only [rdN cq2, bd]
      have := take_eq_step hl hlt hm ht
      by_cases e : l[i] = m[i]
      · refine ifF (by simp [e]) ?_
        rw [wsucc (by omega)]
        exact sm_N hl hb S hne heq fuel (i + 1) (by omega) (by omega) (this.1 e)
      · exact ifT (by simp; omega) (hne (by intro x; subst x; exact e rfl))
    · refine ifF (by simp; omega) ?_
      rw [List.take_of_length_le (by omega), List.take_of_length_le (by omega)] at ht
      exact heq ht
def shortM (x : PM) : Prop := x.N.length < 1000000 ∧ x.S.length < 1000000 ∧ x.F.length < 1000000
theorem sameMS {c1 c2 c3 c4 : Int} {y z : MV} {x w : PM} {bt : Bool} (S : St L h) [In (Im 1 y.n) L (nums x.N)] [In (Im 1 y.s) L (strs x.S)] [In (Im 1 y.f) L (bools x.F)] [In (Im 1 z.n) L (nums w.N)] [In (Im 1 z.s) L (strs w.S)] [In (Im 1 z.f) L (bools w.F)]
    (hx : shortM x) (hT : ∀ {K : KT} {L' : List Asr} {h' : Heap}, St (L' ++ L) h' → (∀ h2, St (L' ++ L) h2 → K (.bool bt) h2) → CallsH P F.qac [.slice y.t.1 y.t.2.1 y.t.2.2, .slice z.t.1 z.t.2.1 z.t.2.2] K h')
    (hK : ∀ h', St L h' → K (.bool (decide (c1 = c3 ∧ c2 = c4 ∧ x.N = w.N ∧ x.S = w.S ∧ x.F = w.F ∧ bt = true))) h') :
    CallsH P F.qaf [.agg (List.toArray (mcells c1 c2 y)), .agg (List.toArray (mcells c3 c4 z))] K h := by
  refine qaf.ok ?_
  unfold qaf.p0
  simp only [bd]
  have S1 := S.al (mcells c1 c2 y) T.api_Method
  generalize al h (mcells c1 c2 y).toArray T.api_Method = h1 at *
  have S2 := S1.al (mcells c3 c4 z) T.api_Method
  generalize al h1 (mcells c3 c4 z).toArray T.api_Method = h2 at *
  generalize top h = a at *
  generalize top h1 = b at *
  have n1 := (S.isl 1 y.n).1
  have n2 := (S.isl 1 y.s).1
  have n3 := (S.isl 1 y.f).1
  have m1 := (S.isl 1 z.n).1
  have m2 := (S.isl 1 z.s).1
  have m3 := (S.isl 1 z.f).1
  simp only [nums, strs, bools, List.length_map, Nat.mul_one] at n1 n2 n3 m1 m2 m3
  simp only [rdN (S2.rc a 0 rfl), rdN (S2.rc b 0 rfl), rdN (S2.rc a 1 rfl), rdN (S2.rc b 1 rfl), rdS (S2.rc a 2 rfl), rdS (S2.rc b 2 rfl), rdS (S2.rc a 3 rfl), rdS (S2.rc b 3 rfl), rdS (S2.rc a 4 rfl), rdS (S2.rc b 4 rfl), rdS (S2.rc a 5 rfl), rdS (S2.rc b 5 rfl)]
  have no : ∀ h', St L h' → ¬ (c1 = c3 ∧ c2 = c4 ∧ x.N = w.N ∧ x.S = w.S ∧ x.F = w.F ∧ bt = true) → K (.bool false) h' := by
    intro h' S' e
    have := hK h' S'
    rwa [decide_eq_false e] at this
  have no' : ¬ (c1 = c3 ∧ c2 = c4 ∧ x.N = w.N ∧ x.S = w.S ∧ x.F = w.F ∧ bt = true) → qaf.j1 K a b true h2 := by
    intro e
    unfold qaf.j1
    exact ifT rfl (no h2 S2.to e)
  by_cases e1 : c1 = c3
  case neg => exact ifT' (by simp [e1]) (no' fun e => e1 e.1)
  refine ifF' (by simp [e1]) ?_
  by_cases e2 : c2 = c4
  case neg => exact ifT' (by simp [e2]) (no' fun e => e2 e.2.1)
  refine ifF' (by simp [e2]) ?_
  by_cases l1 : x.N.length = w.N.length
  case neg => exact ifT' (by simp; omega) (no' fun e => l1 (by rw [e.2.2.1]))
  refine ifF' (by simp; omega) ?_
  by_cases l2 : x.S.length = w.S.length
  case neg => exact ifT' (by simp; omega) (no' fun e => l2 (by rw [e.2.2.2.1]))
  refine ifF' (by simp; omega) ?_
  by_cases l3 : x.F.length = w.F.length
  case neg => exact ifT' (by simp; omega) (no' fun e => l3 (by rw [e.2.2.2.2.1]))
  refine ifF' (by simp; omega) ?_
  refine hT (L' := [Bx b (mcells c3 c4 z), Bx a (mcells c1 c2 y)]) S2 fun h3 S3 => ⟨_, rfl, ?_⟩
  have S4 : St (Bx b (mcells c3 c4 z) :: Bx a (mcells c1 c2 y) :: L) h3 := S3
  unfold qaf.j1
  cases bt with
  | false => exact ifT rfl (no h3 S4.to fun e => by simp at e)
  | true =>
    refine ifF rfl ⟨x.N.length + 1, ?_⟩
    refine sm_N l1 hx.1 S4 (fun hne => no h3 S4.to fun e => hne e.2.2.1) (fun heq => ?_) _ 0 (by omega) (by omega) rfl
    unfold qaf.j2
    refine ⟨x.S.length + 1, sm_S l2 hx.2.1 S4 (fun hne => no h3 S4.to fun e => hne e.2.2.2.1) (fun heq2 => ?_) _ 0 (by omega) (by omega) rfl⟩
    unfold qaf.j3
    refine ⟨x.F.length + 1, sm_F l3 hx.2.2 S4 ?_ _ 0 (by omega) (by omega) rfl⟩
    have := hK h3 S4.to
    simpa [e1, e2, heq, heq2] using this
end
end Go.Proofs.Ytjkiaeccjelklaa.Pr
end
section
set_option linter.unusedVariables false
set_option linter.unusedSimpArgs false
namespace Go.Proofs.Ytjkiaeccjelklaa.Pr
open Go Go.Lift Go.Proofs
def gbit (f : Int) (i : Nat) : Bool := f / ((2 ^ i : Nat) : Int) % 2 == 1
theorem getD_lt {α : Type} (l : List α) (d : α) {i : Nat} (h : i < l.length) : l.getD i d = l[i] := by simp [List.getD, h]
theorem getD_ge {α : Type} (l : List α) (d : α) {i : Nat} (h : l.length ≤ i) : l.getD i d = d := by simp [List.getD, h]
def madeOne (n : List Nat) (s : List Oct) (f : Int) (t : List PF) (tok : Bool) (x : PM) (c : UInt8) : PM :=
  if c = 115 ∨ c = 108 then { x with S := x.S ++ [(s.getD x.S.length []).take 255] }
  else if c = 116 then (if tok then { x with T := t } else x)
  else if c = 102 then { x with F := x.F ++ [gbit f x.F.length] }
  else { x with N := x.N ++ [n.getD x.N.length 0 % 256 ^ (c.toNat - 48)] }
def madeF (n : List Nat) (s : List Oct) (f : Int) (t : List PF) (tok : Bool) (form : Oct) : PM := form.foldl (madeOne n s f t tok) noM
def madeC (which : Int) : (Int × Int) × Oct := knownL.getD ((which % 65536).toNat % 49) ((0, 0), [])
theorem madeC_mem (w : Int) : madeC w ∈ knownL := by
  have : (w % 65536).toNat % 49 < knownL.length := by rw [show knownL.length = 49 from rfl]; omega
  unfold madeC
  rw [getD_lt _ _ this]
  exact List.getElem_mem _
theorem madeC_form (w : Int) : formP (madeC w).1 = some (madeC w).2 := by
  have : ∀ x ∈ knownL, formP x.1 = some x.2 := by decide +kernel
  exact this _ (madeC_mem w)
theorem madeC_good (w : Int) : goodForm (madeC w).2 := forms_good _ (madeC_mem w)
theorem madeC_rng (w : Int) : 0 ≤ (madeC w).1.1 ∧ (madeC w).1.1 < 256 ∧ 0 ≤ (madeC w).1.2 ∧ (madeC w).1.2 < 256 := by
  have : ∀ x ∈ knownL, 0 ≤ x.1.1 ∧ x.1.1 < 256 ∧ 0 ≤ x.1.2 ∧ x.1.2 < 256 := by decide +kernel
  exact this _ (madeC_mem w)
theorem madeOne_len (n : List Nat) (s : List Oct) (f : Int) (t : List PF) (tok : Bool) (x : PM) (c : UInt8) : (madeOne n s f t tok x c).N.length ≤ x.N.length + 1 ∧ (madeOne n s f t tok x c).S.length ≤ x.S.length + 1 ∧ (madeOne n s f t tok x c).F.length ≤ x.F.length + 1 := by
  unfold madeOne
  split
  · simp
  split
  · split <;> simp
  split <;> simp
theorem madeF_len (n : List Nat) (s : List Oct) (f : Int) (t : List PF) (tok : Bool) (form : Oct) : (madeF n s f t tok form).N.length ≤ form.length ∧ (madeF n s f t tok form).S.length ≤ form.length ∧ (madeF n s f t tok form).F.length ≤ form.length := by
  unfold madeF
  have : ∀ (form : Oct) (x : PM), (form.foldl (madeOne n s f t tok) x).N.length ≤ x.N.length + form.length ∧ (form.foldl (madeOne n s f t tok) x).S.length ≤ x.S.length + form.length ∧ (form.foldl (madeOne n s f t tok) x).F.length ≤ x.F.length + form.length := by
    intro form
    induction form with
    | nil => intro x; simp
    | cons c r ih =>
      intro x
      have h1 := madeOne_len n s f t tok x c
      have h2 := ih (madeOne n s f t tok x c)
      simp only [List.foldl_cons, List.length_cons]
      omega
  simpa [noM] using this form noM
theorem madeF_take {n : List Nat} {s : List Oct} {f : Int} {t : List PF} {tok : Bool} {form : Oct} {i : Nat} (hi : i < form.length) : madeF n s f t tok (form.take (i + 1)) = madeOne n s f t tok (madeF n s f t tok (form.take i)) form[i] := by
  unfold madeF
  rw [List.take_succ_eq_append_getElem hi, List.foldl_append]
  rfl
theorem cut255 (v : Oct) : inB (if (255 : Int) < ((List.length v : Nat) : Int) then 255 else ((List.length v : Nat) : Int)) (List.length v) ∧ List.take (Int.toNat (if (255 : Int) < ((List.length v : Nat) : Int) then 255 else ((List.length v : Nat) : Int))) v = v.take 255 := by
  split
  · exact ⟨⟨by omega, by omega⟩, rfl⟩
  · refine ⟨⟨by omega, by omega⟩, ?_⟩
    rw [Int.toNat_natCast, List.take_length, List.take_of_length_le (by omega)]
theorem mask_u64 (n k : Nat) (hn : n < 18446744073709551616) (hk : k < 8) : bitsI .and .u64 (n : Int) (IntKind.u64.wrap ((shlI .u64 1 (IntKind.u64.wrap ((8 * k : Nat) : Int))) - 1)) = ((n % 256 ^ k : Nat) : Int) := by
  have w : IntKind.u64.wrap ((8 * k : Nat) : Int) = ((8 * k : Nat) : Int) := wrap_len (by omega)
  rw [w]
  have e : (256 : Nat) ^ k = 2 ^ (8 * k) := by rw [Nat.pow_mul]
  have p0 : 0 < 2 ^ (8 * k) := Nat.pow_pos (by omega)
  have p1 : 2 ^ (8 * k) < 18446744073709551616 := by
    have : 2 ^ (8 * k) ≤ 2 ^ 56 := Nat.pow_le_pow_right (by omega) (by omega)
    omega
  have s : shlI .u64 1 ((8 * k : Nat) : Int) = ((2 ^ (8 * k) : Nat) : Int) := by
    simp only [shlI, IntKind.bits, Int.toNat_natCast]
    rw [show min (8 * k) 64 = 8 * k by omega, Int.one_mul]
    have : (2 : Int) ^ (8 * k) = ((2 ^ (8 * k) : Nat) : Int) := by rw [Int.natCast_pow]; rfl
    rw [this, wrap_len p1]
  rw [s]
  have w2 : IntKind.u64.wrap (((2 ^ (8 * k) : Nat) : Int) - 1) = ((2 ^ (8 * k) - 1 : Nat) : Int) := by
    rw [show ((2 ^ (8 * k) : Nat) : Int) - 1 = ((2 ^ (8 * k) - 1 : Nat) : Int) by omega, wrap_len (by omega)]
  rw [w2, and_u64, Nat.mod_eq_of_lt (by omega), Nat.mod_eq_of_lt (by omega), Nat.and_two_pow_sub_one_eq_mod, e]
section
variable {K : KT} {L R : List Asr} {h : Heap}
theorem made_loop {r m : Addr} {a b : Int} {rc : List Value} {f : Oct} {sn ss t : SV} {n : List Nat} {s : List Oct} {tt : List PF} {B0 : Nat → Prop} {ff : Int} {tok : Bool} [Hn : In (Im 1 sn) L (nums n)] [Hs : In (Im 1 ss) L (strs s)] [Ht : In (Tb B0 t) L tt] (g : goodForm f) (hn : ∀ v ∈ n, v < 18446744073709551616)
    (hT : ∀ {L' : List Asr} {K : KT} {h : Heap}, St L' h → Tb B0 t tt ∈ L' → (∀ h', St L' h' → K (.bool tok) h') → CallsH P F.qbk [.slice t.1 t.2.1 t.2.2] K h)
    (hK : ∀ h', St (MB m a b (madeF n s ff tt tok f) :: Bx r rc :: L) h' → qag.j1 K r m h') :
    ∀ (fuel i : Nat) (h : Heap), f.length - i < fuel → i ≤ f.length → St (MB m a b (madeF n s ff tt tok (f.take i)) :: Bx r rc :: L) h → qag.L2 K fuel sn.1 sn.2.1 sn.2.2 ss.1 ss.2.1 ss.2.2 ff t.1 t.2.1 t.2.2 r m f i h
  | 0, _, _, hf, _, _ => absurd hf (Nat.not_lt_zero _)
  | fuel + 1, i, h, hf, hi, S0 => by
    unfold qag.L2
    by_cases hlt : i < f.length
    · refine ifT (by simp; omega) ?_
      have next : ∀ h', St (MB m a b (madeOne n s ff tt tok (madeF n s ff tt tok (f.take i)) f[i]) :: Bx r rc :: L) h' → qag.j3 K (qag.L2 K fuel) sn.1 sn.2.1 sn.2.2 ss.1 ss.2.1 ss.2.2 ff t.1 t.2.1 t.2.2 r m f i h' := by
        intro h' S'
        unfold qag.j3
        simp only [bd]
        rw [wsucc (by have := g.2; omega)]
        rw [← madeF_take hlt] at S'
        exact made_loop g hn hT hK fuel (i + 1) h' (by omega) (by omega) S'
      have hml := madeF_len n s ff tt tok (f.take i)
      generalize madeF n s ff tt tok (f.take i) = x at *
      have hx : x.N.length < 16 ∧ x.S.length < 16 ∧ x.F.length < 16 := by have := g.2; simp only [List.length_take] at hml; omega
      clear hml
      obtain ⟨y, B, S⟩ := MB.op S0
      have hc := g.1 f[i] (List.getElem_mem _)
      have el : lb f i = (f[i].toNat : Int) := by simp [lb, List.getD, hlt]
      rw [el]
      generalize f[i] = c at *
      have e115 := eb8 c 115
      have e108 := eb8 c 108
      have e116 := eb8 c 116
      have e102 := eb8 c 102
      simp only [show ((102 : UInt8).toNat : Int) = 102 from rfl, show ((116 : UInt8).toNat : Int) = 116 from rfl, show ((115 : UInt8).toNat : Int) = 115 from rfl, show ((108 : UInt8).toNat : Int) = 108 from rfl] at e115 e108 e116 e102
      simp only [bd]
      rw [e115, e108]
      have lS : y.s.2.1 = x.S.length := by have := (S.ows 1 y.s).1; simp only [strs, List.length_map, Nat.mul_one] at this; omega
      have lN : y.n.2.1 = x.N.length := by have := (S.ows 1 y.n).1; simp only [nums, List.length_map, Nat.mul_one] at this; omega
      have lF : y.f.2.1 = x.F.length := by have := (S.ows 1 y.f).1; simp only [bools, List.length_map, Nat.mul_one] at this; omega
      have ln : sn.2.1 = n.length := by have := (S.isl 1 sn).1; simp only [nums, List.length_map, Nat.mul_one] at this; omega
      have ls : ss.2.1 = s.length := by have := (S.isl 1 ss).1; simp only [strs, List.length_map, Nat.mul_one] at this; omega
      refine ⟨by omega, by omega, ?_⟩
      unfold madeOne at next
      by_cases k1 : c = 115 ∨ c = 108
      · simp only [if_pos k1] at next
        have gt : qag.j4 K (qag.L2 K fuel) sn.1 sn.2.1 sn.2.2 ss.1 ss.2.1 ss.2.2 ff t.1 t.2.1 t.2.2 r m f i (c.toNat : Int) true h := by
          unfold qag.j4
          refine ifT rfl ?_
          simp only [bd, rdS (S.rc m 3 rfl)]
          have j5 : ∀ v : Oct, v = s.getD x.S.length [] → qag.j5 K (qag.L2 K fuel) sn.1 sn.2.1 sn.2.2 ss.1 ss.2.1 ss.2.2 ff t.1 t.2.1 t.2.2 r m f i v h := by
            intro v ev
            unfold qag.j5
            have cv := cut255 v
            rw [cv.2]
            simp only [cv.1, true_and, bd, rdS (S.rc m 3 rfl), rdS ((S.al [.string (mkS (v.take 255))] T.string).rc m 3 rfl), and_self]
            refine St.push1 sl_string S m 3 y.s rfl (by simp) (by omega) (by omega) fun p cc h2 S2 => next h2 (MB.cl ⟨y.n, (p, y.s.2.1 + 1, cc), y.f, y.t⟩ B ?_)
            have e : strs x.S ++ [.string (mkS (v.take 255))] = strs (x.S ++ [(s.getD x.S.length []).take 255]) := by simp [strs, ev]
            simp only [e, List.set_cons_succ, List.set_cons_zero] at S2
            exact S2.to
          by_cases hk : y.s.2.1 < ss.2.1
          · refine ifT (by simp; omega) ?_
            refine ixV (i := (y.s.2.1 : Int)) (n := x.S.length) (w := .string (mkS (s.getD x.S.length []))) (S.isl 1 ss) (by omega) (by simp only [strs, List.getElem?_map, List.getElem?_eq_getElem (show x.S.length < s.length by omega), Option.map_some, getD_lt _ _ (show x.S.length < s.length by omega)]) fun q eq cq => ?_
            simp only [rdT cq]
            exact j5 _ rfl
          · exact ifF (by simp; omega) (j5 [] (by rw [getD_ge _ _ (by omega)]))
        by_cases k2 : c = 115
        · exact ifT (by simp [k2]) (by rw [decide_eq_true k2]; exact gt)
        · exact ifF (by simp [k2]) (by rw [decide_eq_true (k1.resolve_left k2)]; exact gt)
      have n5 : ¬ c = 115 := fun e => k1 (.inl e)
      have n8 : ¬ c = 108 := fun e => k1 (.inr e)
      simp only [if_neg k1] at next
      refine ifF (by simp [n5]) ?_
      rw [decide_eq_false n8]
      unfold qag.j4
      refine ifF rfl ?_
      simp only [bd]
      rw [e116, e102]
      by_cases k3 : c = 116
      · simp only [if_pos k3] at next
        refine ifT (by simp [k3]) (hT S0 (List.mem_cons_of_mem _ (List.mem_cons_of_mem _ Ht.mem)) fun h1 S1 => ⟨_, rfl, fun et => ?_, fun et => ?_⟩)
        · rw [if_pos et] at next
          obtain ⟨y, B, S⟩ := MB.op S1
          have S2 := tbDup S (B := B0) (s := t)
          refine S2.put1 m 5 (by simp) rfl fun h2 S3 => next h2 (MB.cl ⟨y.n, y.s, y.f, t⟩ B0 ?_)
          simp only [List.set_cons_succ, List.set_cons_zero] at S3
          exact S3.to
        · subst et
          rw [if_neg (by decide)] at next
          exact next h1 S1
      simp only [if_neg k3] at next
      refine ifF (by simp [k3]) ?_
      by_cases k4 : c = 102
      · simp only [if_pos k4] at next
        refine ifT (by simp [k4]) ?_
        have ew : IntKind.u64.wrap ((y.f.2.1 : Nat) : Int) = ((y.f.2.1 : Nat) : Int) := wrap_len (by omega)
        simp only [rdS (S.rc m 4 rfl), ew]
        refine ⟨by omega, ?_⟩
        have eb : (bitsI .and .i64 (shrI .i64 ff ((y.f.2.1 : Nat) : Int)) 1 == 1) = gbit ff x.F.length := by
          rw [m1, shr_i64 _ _ (by omega), lF]; rfl
        rw [eb]
        refine St.push1 sl_bool S m 4 y.f rfl (by simp) (by omega) (by omega) fun p cc h2 S2 => next h2 (MB.cl ⟨y.n, y.s, (p, y.f.2.1 + 1, cc), y.t⟩ B ?_)
        have e : bools x.F ++ [.bool (gbit ff x.F.length)] = bools (x.F ++ [gbit ff x.F.length]) := by simp [bools]
        simp only [e, List.set_cons_succ, List.set_cons_zero] at S2
        exact S2.to
      simp only [if_neg k4] at next
      refine ifF (by simp [k4]) ?_
      have hd : 49 ≤ c.toNat ∧ c.toNat ≤ 56 := by
        rcases hc with e | e | e | e | e
        · exact absurd e k4
        · exact absurd e n5
        · exact absurd e n8
        · exact absurd e k3
        · exact e
      simp only [rdS (S.rc m 2 rfl)]
      have j7 : ∀ v : Nat, v = n.getD x.N.length 0 % 256 ^ (c.toNat - 48) → qag.j7 K (qag.L2 K fuel) sn.1 sn.2.1 sn.2.2 ss.1 ss.2.1 ss.2.2 ff t.1 t.2.1 t.2.2 r m f i (v : Int) h := by
        intro v ev
        unfold qag.j7
        simp only [rdS (S.rc m 2 rfl), bd]
        refine St.push1 sl_uint64 S m 2 y.n rfl (by simp) (by omega) (by omega) fun p cc h2 S2 => next h2 (MB.cl ⟨(p, y.n.2.1 + 1, cc), y.s, y.f, y.t⟩ B ?_)
        have e : nums x.N ++ [.int .u64 (v : Int)] = nums (x.N ++ [n.getD x.N.length 0 % 256 ^ (c.toNat - 48)]) := by simp [nums, ev]
        simp only [e, List.set_cons_succ, List.set_cons_zero] at S2
        exact S2.to
      have j6 : ∀ v : Nat, v = n.getD x.N.length 0 → v < 18446744073709551616 → qag.j6 K (qag.L2 K fuel) sn.1 sn.2.1 sn.2.2 ss.1 ss.2.1 ss.2.2 ff t.1 t.2.1 t.2.2 r m f i (v : Int) h := by
        intro v ev hv
        unfold qag.j6
        have el : lb f i = (c.toNat : Int) := el
        rw [el]
        refine ⟨by omega, by omega, ?_⟩
        by_cases h8 : c.toNat = 56
        · refine ifF (by simp [h8]) (j7 v ?_)
          rw [← ev, h8, Nat.mod_eq_of_lt]
          exact hv
        · refine ifT (by simp; omega) ⟨by omega, by omega, ?_⟩
          have w1 : IntKind.u8.wrap ((8 : Int) * (IntKind.u8.wrap ((c.toNat : Int) - 48))) = ((8 * (c.toNat - 48) : Nat) : Int) := by
            rw [IntKind.wrap_u8', IntKind.wrap_u8']; omega
          rw [w1]
          refine ⟨by rw [wrap_len (by omega)]; omega, ?_⟩
          simp only [bd]
          rw [mask_u64 v _ hv (by omega)]
          exact j7 _ (by rw [ev])
      by_cases hk : y.n.2.1 < sn.2.1
      · refine ifT (by simp; omega) ?_
        have hv : n.getD x.N.length 0 = n[x.N.length]'(by omega) := getD_lt _ _ (by omega)
        refine ixV (i := (y.n.2.1 : Int)) (n := x.N.length) (w := .int .u64 ((n.getD x.N.length 0 : Nat) : Int)) (S.isl 1 sn) (by omega) (by simp only [nums, List.getElem?_map, List.getElem?_eq_getElem (show x.N.length < n.length by omega), Option.map_some, hv]) fun q eq cq => ?_
        simp only [rdN cq]
        exact j6 _ rfl (by rw [hv]; exact hn _ (List.getElem_mem _))
      · exact ifF (by simp; omega) (j6 0 (by rw [getD_ge _ _ (by omega)]) (by omega))
    · refine ifF (by simp; omega) (hK h ?_)
      rw [List.take_of_length_le (by omega)] at S0
      exact S0
def pair2 (x : (Int × Int) × Oct) : List Value := [.int .i64 x.1.1, .int .i64 x.1.2]
theorem pairs_at (i : Nat) (hi : i < 49) : ((knownL.flatMap pair2).drop (i * 2)).take 2 = pair2 (knownL.getD i ((0, 0), [])) := by
  have : ∀ i : Fin 49, ((knownL.flatMap pair2).drop (i.1 * 2)).take 2 = pair2 (knownL.getD i.1 ((0, 0), [])) := by
    intro i
    have e1 : ∀ (l : List ((Int × Int) × Oct)) (i : Nat) (hi : i < l.length), ((l.flatMap pair2).drop (i * 2)).take 2 = pair2 l[i] := by
      intro l
      induction l with
      | nil => intro i hi; cases hi
      | cons x r ih =>
        intro i hi
        cases i with
        | zero => rfl
        | succ i =>
          rw [show (i + 1) * 2 = i * 2 + 1 + 1 by omega]
          exact ih i (by simpa using hi)
    have hl : i.1 < knownL.length := i.2
    rw [e1 _ _ hl, getD_lt _ _ hl]
  exact this ⟨i, hi⟩
theorem madeS {which ff : Int} {sn ss t : SV} {n : List Nat} {s : List Oct} {tt : List PF} {B0 : Nat → Prop} {tok : Bool} (S : St L h) [Hn : In (Im 1 sn) L (nums n)] [Hs : In (Im 1 ss) L (strs s)] [Ht : In (Tb B0 t) L tt] (hn : ∀ v ∈ n, v < 18446744073709551616)
    (hT : ∀ {L' : List Asr} {K : KT} {h : Heap}, St L' h → Tb B0 t tt ∈ L' → (∀ h', St L' h' → K (.bool tok) h') → CallsH P F.qbk [.slice t.1 t.2.1 t.2.2] K h)
    (hK : ∀ y B h', St (Ow 1 y.n (nums (madeF n s ff tt tok (madeC which).2).N) :: Ow 1 y.s (strs (madeF n s ff tt tok (madeC which).2).S) :: Ow 1 y.f (bools (madeF n s ff tt tok (madeC which).2).F) :: Tb B y.t (madeF n s ff tt tok (madeC which).2).T :: L) h' →
      K (.agg (List.toArray (mcells (madeC which).1.1 (madeC which).1.2 y))) h') : CallsH P F.qag [.int .i64 which, .slice sn.1 sn.2.1 sn.2.2, .slice ss.1 ss.2.1 ss.2.2, .int .i64 ff, .slice t.1 t.2.1 t.2.2] K h := by
  refine qag.ok ?_
  unfold qag.p0
  simp only [bd]
  have S1 := S.al (mcells 0 0 mnil) T.api_Method
  refine ⟨knownL.flatMap pair2, by unfold bldS; kernel_rfl, ?_⟩
  have S2 := S1.al (knownL.flatMap pair2) T.t2_int
  have e0 : Int.tmod (bitsI .and .i64 which 65535) (49 : Int) = (((which % 65536).toNat % 49 : Nat) : Int) := by
    rw [m65535, Int.tmod_eq_emod_of_nonneg (by omega)]; omega
  rw [show (((49 : Nat) : Int)) = 49 from rfl, e0]
  have hi : (which % 65536).toNat % 49 < 49 := by omega
  have ec : madeC which = knownL.getD ((which % 65536).toNat % 49) ((0, 0), []) := rfl
  generalize (which % 65536).toNat % 49 = i at *
  refine ⟨by decide, _, rfl, by omega, by omega, ?_⟩
  generalize top h = r at *
  generalize al h _ _ = h1 at *
  rw [show Int.toNat ((i : Nat) : Int) * 2 = i * 2 from by rw [Int.toNat_natCast]]
  refine S2.rdP (i * 2) (n := 2) (by rw [show (knownL.flatMap pair2).length = 98 from rfl]; omega) ?_
  rw [pairs_at i hi, ← ec]
  generalize al h1 _ _ = h3 at *
  have S3 := S2.al [.int .i64 0, .int .i64 0] T.t2_int
  refine ⟨rfl, S3.putA (top h3) rfl (by intro w hw; simp [pair2] at hw; rcases hw with rfl | rfl <;> rfl) fun h8 S4 => ?_⟩
  generalize top h3 = q at *
  unfold pair2 at S4
  simp only [show Int.toNat 0 * 1 = 0 from rfl, show Int.toNat 1 * 1 = 1 from rfl, rdN (S4.rc q 0 rfl), rdN (S4.rc q 1 rfl)]
  refine ⟨by decide, by decide, by decide, by decide, rfl, ?_⟩
  have S5 := S4.al (mcells 0 0 mnil) T.api_Method
  have eh : al h8 #[.int .i64 0, .int .i64 0, .slice none 0 0, .slice none 0 0, .slice none 0 0, .slice none 0 0] T.api_Method = al h8 (mcells 0 0 mnil).toArray T.api_Method := rfl
  rw [eh]
  refine S5.putA (top h8) (ws := mcells (madeC which).1.1 (madeC which).1.2 mnil) rfl (by intro w hw; simp [mcells] at hw; rcases hw with rfl | rfl | rfl | rfl | rfl | rfl <;> rfl) fun h12 S6 => ?_
  generalize top h8 = m at *
  simp only [rdN (S6.rc q 0 rfl), rdN (S6.rc q 1 rfl)]
  refine ⟨by decide, by decide, by decide, by decide, refForm.spec ⟨_, _, rfl, ?_⟩⟩
  rw [madeC_form]
  simp only [Option.getD_some]
  have S7 := ((((tbNil 0 S6).owNil 1).owNil 1).owNil 1)
  have S8 : St (MB m (madeC which).1.1 (madeC which).1.2 noM :: Bx r (mcells 0 0 mnil) :: L) h12 := MB.cl mnil (fun _ => False) (show St (Bx m (mcells (madeC which).1.1 (madeC which).1.2 mnil) :: Ow 1 (none, 0, 0) [] :: Ow 1 (none, 0, 0) [] :: Ow 1 (none, 0, 0) [] :: Tb (fun _ => False) (none, 0, 0) [] :: Bx r (mcells 0 0 mnil) :: L) h12 from S7.to)
  refine ⟨_, made_loop (madeC_good which) hn hT (fun h' S' => ?_) _ 0 h12 (Nat.lt_succ_self _) (Nat.zero_le _) S8⟩
  obtain ⟨y, B, S9⟩ := MB.op S'
  unfold qag.j1
  simp only [rdC' (S9.rall m 6 rfl)]
  refine ⟨rfl, S9.putA r rfl (by intro w hw; simp [mcells] at hw; rcases hw with rfl | rfl | rfl | rfl | rfl | rfl <;> rfl) fun h20 S10 => ?_⟩
  simp only [rdC' (S10.rall r 6 rfl)]
  exact hK y B h20 S10.to
end
end Go.Proofs.Ytjkiaeccjelklaa.Pr
end
section
set_option linter.unusedVariables false
set_option linter.unusedSimpArgs false
namespace Go.Proofs.Ytjkiaeccjelklaa.Pr
open Go Go.Lift Go.Proofs
def isS (c : UInt8) : Bool := decide (c = 115 ∨ c = 108)
def isT (c : UInt8) : Bool := decide (c = 116)
def isF (c : UInt8) : Bool := decide (c = 102)
def isN (c : UInt8) : Bool := decide (¬ (c = 115 ∨ c = 108) ∧ ¬ c = 116 ∧ ¬ c = 102)
theorem flags_split : ∀ f : Oct, f.countP isN = (f.drop (flagsP f)).countP isN ∧ f.countP isS = (f.drop (flagsP f)).countP isS ∧ f.countP isT = (f.drop (flagsP f)).countP isT ∧ f.countP isF = flagsP f + (f.drop (flagsP f)).countP isF
  | [] => by simp [flagsP]
  | c :: t => by
    have ih := flags_split t
    unfold flagsP
    split
    · rename_i e
      subst e
      simp only [List.drop_succ_cons, List.countP_cons, ← ih]
      simp only [isN, isS, isT, isF]
      refine ⟨by simp, by simp, by simp, ?_⟩
      have := ih.2.2.2
      simp
      omega
    · simp
theorem madeF_N64 (n : List Nat) (hn : ∀ v ∈ n, v < 18446744073709551616) (s : List Oct) (f : Int) (t : List PF) (tok : Bool) (form : Oct) : (∀ v ∈ (madeF n s f t tok form).N, v < 18446744073709551616) ∧ (∀ v ∈ (madeF n s f t tok form).S, v.length ≤ 255) := by
  unfold madeF
  have : ∀ (form : Oct) (x : PM), (∀ v ∈ x.N, v < 18446744073709551616) → (∀ v ∈ x.S, v.length ≤ 255) → (∀ v ∈ (form.foldl (madeOne n s f t tok) x).N, v < 18446744073709551616) ∧ (∀ v ∈ (form.foldl (madeOne n s f t tok) x).S, v.length ≤ 255) := by
    intro form
    induction form with
    | nil => intro x h1 h2; exact ⟨h1, h2⟩
    | cons c r ih =>
      intro x h1 h2
      refine ih _ ?_ ?_
      · unfold madeOne
        split
        · exact h1
        split
        · split <;> exact h1
        split
        · exact h1
        · intro v hv
          simp only [List.mem_append, List.mem_singleton] at hv
          rcases hv with hv | rfl
          · exact h1 v hv
          · refine Nat.lt_of_le_of_lt (Nat.mod_le _ _) ?_
            by_cases hi : x.N.length < n.length
            · rw [getD_lt _ _ hi]; exact hn _ (List.getElem_mem _)
            · rw [getD_ge _ _ (by omega)]; decide
      · unfold madeOne
        split
        · intro v hv
          simp only [List.mem_append, List.mem_singleton] at hv
          rcases hv with hv | rfl
          · exact h2 v hv
          · simp; omega
        split
        · split <;> exact h2
        split
        · exact h2
        · exact h2
  exact this form noM (by simp [noM]) (by simp [noM])
theorem madeF_T (n : List Nat) (s : List Oct) (f : Int) (t : List PF) (tok : Bool) (form : Oct) : (madeF n s f t tok form).T = if tok ∧ 0 < form.countP isT then t else [] := by
  unfold madeF
  have : ∀ (form : Oct) (x : PM), (form.foldl (madeOne n s f t tok) x).T = if tok ∧ 0 < form.countP isT then t else x.T := by
    intro form
    induction form with
    | nil => intro x; simp
    | cons c r ih =>
      intro x
      simp only [List.foldl_cons, List.countP_cons, ih]
      unfold madeOne
      by_cases k1 : c = 115 ∨ c = 108
      · have : ¬ c = 116 := by rcases k1 with rfl | rfl <;> decide
        simp [k1, isT, this]
      by_cases k2 : c = 116
      · subst k2
        cases tok <;> simp [isT]
      by_cases k3 : c = 102
      · subst k3; simp [isT]
      · simp [k1, k2, k3, isT]
  exact this form noM
end Go.Proofs.Ytjkiaeccjelklaa.Pr
end
section
set_option linter.unusedVariables false
set_option linter.unusedSimpArgs false
namespace Go.Proofs.Ytjkiaeccjelklaa.Pr
open Go Go.Lift Go.Proofs
def letterD (c : UInt8) : Prop := c = 102 ∨ c = 115 ∨ c = 108 ∨ c = 116 ∨ c = 49 ∨ c = 50 ∨ c = 52 ∨ c = 56
def niceForm (f : Oct) : Prop := (∀ c ∈ f, letterD c) ∧ f.countP isT ≤ 1 ∧ f.length < 16
instance (c : UInt8) : Decidable (letterD c) := by unfold letterD; infer_instance
instance (f : Oct) : Decidable (niceForm f) := by unfold niceForm; infer_instance
theorem forms_nice : ∀ x ∈ knownL, niceForm x.2 := by decide +kernel
theorem formP_nice {c : Int × Int} {f : Oct} (h : formP c = some f) : niceForm f := forms_nice (c, f) (get?_mem h)
def fitsNS : Oct → List Nat → List Oct → Bool
  | [], N, S => decide (N = [] ∧ S = [])
  | c :: r, N, S =>
    if c = 115 ∨ c = 108 then match S with
      | [] => false
      | s :: S' => (decide (c = 108) || decide (s.length ≤ 255)) && fitsNS r N S'
    else if c = 116 ∨ c = 102 then fitsNS r N S
    else match N with
      | [] => false
      | v :: N' => (decide (c.toNat - 48 = 8) || decide (v / 256 ^ (c.toNat - 48) = 0)) && fitsNS r N' S
theorem fitsNS_cons (c : UInt8) (r : Oct) (N : List Nat) (S : List Oct) : fitsNS (c :: r) N S = (if c = 115 ∨ c = 108 then match S with
      | [] => false
      | s :: S' => (decide (c = 108) || decide (s.length ≤ 255)) && fitsNS r N S'
    else if c = 116 ∨ c = 102 then fitsNS r N S
    else match N with
      | [] => false
      | v :: N' => (decide (c.toNat - 48 = 8) || decide (v / 256 ^ (c.toNat - 48) = 0)) && fitsNS r N' S) := by
  conv => lhs; unfold fitsNS
def fitsP (f : Oct) (x : PM) : Bool := fitsNS f x.N x.S && decide (x.F.length = f.countP isF) && decide (f.countP isT = 1 ∨ x.T = []) && tableOkP x.T
def wr : Bool → Oct → Oct × PM → Oct
  | _, [], z => z.1
  | prev, c :: r, z =>
    if c = 115 then wr false r (z.1 ++ octsN 1 (z.2.S.headD []).length ++ z.2.S.headD [], { z.2 with S := z.2.S.tail })
    else if c = 108 then wr false r (z.1 ++ octsN 4 (z.2.S.headD []).length ++ z.2.S.headD [], { z.2 with S := z.2.S.tail })
    else if c = 116 then wr false r (z.1 ++ octsN 4 (rowsR 8 z.2.T).length ++ rowsR 8 z.2.T, z.2)
    else if c = 102 then wr true r (if prev then z.1 else z.1 ++ packGo (z.2.F.take (flagsP (c :: r))) 0 [], { z.2 with F := z.2.F.tail })
    else wr false r (z.1 ++ octsN (c.toNat - 48) (z.2.N.headD 0), { z.2 with N := z.2.N.tail })
theorem packGo_out : ∀ (bs : List Bool) (i : Nat) (o q : Oct), (i % 8 ≠ 0 → q ≠ []) → packGo bs i (o ++ q) = o ++ packGo bs i q
  | [], _, _, _, _ => rfl
  | b :: r, i, o, q, hq => by
    have orl : ∀ (q : Oct) (v : UInt8), q ≠ [] → orLast (o ++ q) v = o ++ orLast q v := by
      intro q v hne
      have hl := List.length_pos_iff.2 hne
      unfold orLast
      simp only [List.length_append]
      rw [List.set_append_right _ _ (by omega), show o.length + q.length - 1 - o.length = q.length - 1 by omega]
      congr 2
      simp only [List.getD_eq_getElem?_getD]
      rw [List.getElem?_append_right (by omega), show o.length + q.length - 1 - o.length = q.length - 1 by omega]
    have ne : ∀ (q : Oct) (v : UInt8), q ≠ [] → orLast q v ≠ [] := by
      intro q v hne e
      have := congrArg List.length e
      simp [orLast] at this
      exact hne this
    unfold packGo
    by_cases h8 : i % 8 = 0
    · rw [if_pos h8, if_pos h8, List.append_assoc]
      cases b
      · simp only [Bool.false_eq_true, if_false]
        exact packGo_out r (i + 1) o (q ++ [0]) (fun _ => by simp)
      · simp only [if_true]
        rw [orl _ _ (by simp)]
        exact packGo_out r (i + 1) o _ (fun _ => ne _ _ (by simp))
    · rw [if_neg h8, if_neg h8]
      cases b
      · simp only [Bool.false_eq_true, if_false]
        exact packGo_out r (i + 1) o q (fun _ => hq h8)
      · simp only [if_true]
        rw [orl _ _ (hq h8)]
        exact packGo_out r (i + 1) o _ (fun _ => ne _ _ (hq h8))
theorem packGo_nil (bs : List Bool) (o : Oct) : packGo bs 0 o = o ++ packGo bs 0 [] := by
  have := packGo_out bs 0 o [] (fun h => absurd rfl h)
  simpa using this
theorem wr_head {c : UInt8} {r : Oct} (hc : c ≠ 102) (z : Oct × PM) : wr true (c :: r) z = wr false (c :: r) z := by
  unfold wr
  repeat' split
  all_goals first | rfl | (rename_i e; exact absurd e hc) | contradiction
theorem wr_run : ∀ (f : Oct) (o : Oct) (x : PM), wr true f (o, x) = wr false (f.drop (flagsP f)) (o, { x with F := x.F.drop (flagsP f) })
  | [], o, x => by simp [flagsP, wr]
  | c :: r, o, x => by
    by_cases hc : c = 102
    · subst hc
      have e : flagsP (102 :: r) = flagsP r + 1 := by simp [flagsP]
      rw [e]
      have ih := wr_run r o { x with F := x.F.tail }
      simp only [List.drop_succ_cons]
      have : wr true (102 :: r) (o, x) = wr true r (o, { x with F := x.F.tail }) := by
        conv => lhs; unfold wr
        simp
      rw [this, ih]
      simp only [List.drop_tail]
    · have e : flagsP (c :: r) = 0 := by simp [flagsP, hc]
      rw [e, wr_head hc]
      simp
theorem fitsNS_run : ∀ (f : Oct) (N : List Nat) (S : List Oct), fitsNS f N S = fitsNS (f.drop (flagsP f)) N S
  | [], _, _ => by simp [flagsP]
  | c :: r, N, S => by
    by_cases hc : c = 102
    · subst hc
      have e : flagsP (102 :: r) = flagsP r + 1 := by simp [flagsP]
      rw [e, List.drop_succ_cons, ← fitsNS_run r N S]
      simp [fitsNS]
    · have e : flagsP (c :: r) = 0 := by simp [flagsP, hc]
      rw [e]; rfl
def finP (z : Oct × PM) : Option Oct := if z.2.N = [] ∧ z.2.S = [] ∧ z.2.F = [] ∧ z.2.T = [] then some z.1 else none
def okP (f : Oct) (x : PM) : Prop := fitsNS f x.N x.S = true ∧ x.F.length = f.countP isF ∧ (f.countP isT = 1 ∨ x.T = []) ∧ tableOkP x.T = true
instance (f : Oct) (x : PM) : Decidable (okP f x) := by unfold okP; infer_instance
theorem tableOk_nil : tableOkP [] = true := by decide +kernel
theorem formW_eq : ∀ (k : Nat) (f : Oct) (o : Oct) (x : PM), f.length < k → (∀ c ∈ f, letterD c) → f.countP isT ≤ 1 → (formW k f (o, x)).bind finP = if okP f x then some (wr false f (o, x)) else none
  | 0, _, _, _, h, _, _ => absurd h (Nat.not_lt_zero _)
  | k + 1, f, o, x, hk, hl, ht => by
    unfold formW
    by_cases e0 : f = []
    · subst e0
      rw [if_pos rfl]
      simp only [Option.bind_some, finP, okP, fitsNS, wr, List.countP_nil, decide_eq_true_eq]
      have : (x.N = [] ∧ x.S = [] ∧ x.F = [] ∧ x.T = []) ↔ ((x.N = [] ∧ x.S = []) ∧ x.F.length = 0 ∧ (0 = 1 ∨ x.T = []) ∧ tableOkP x.T = true) := by
        constructor
        · intro ⟨a, b, c, d⟩; exact ⟨⟨a, b⟩, by rw [c]; rfl, .inr d, by rw [d]; exact tableOk_nil⟩
        · intro ⟨⟨a, b⟩, c, d, e⟩
          rcases d with d | d
          · cases d
          · exact ⟨a, b, List.length_eq_zero_iff.1 c, d⟩
      simp only [this]
    rw [if_neg e0]
    by_cases e1 : 0 < flagsP f
    · rw [if_pos e1]
      have fs := flags_split f
      have hlr : ∀ c ∈ f.drop (flagsP f), letterD c := fun c hc => hl c (List.mem_of_mem_drop hc)
      unfold packW
      dsimp only
      split
      · rename_i hF
        rw [if_neg]
        · rfl
        · intro ⟨_, h2, _⟩
          omega
      · rename_i hF
        simp only [Option.bind_some]
        rw [formW_eq k _ _ _ (by have := flagsP_le f; simp; omega) hlr (by rw [← fs.2.2.1]; exact ht)]
        have eo : okP (f.drop (flagsP f)) { x with F := x.F.drop (flagsP f) } ↔ okP f x := by
          unfold okP
          simp only [List.length_drop]
          rw [← fitsNS_run, ← fs.2.2.1]
          constructor
          · intro ⟨a, b, c⟩; exact ⟨a, by omega, c⟩
          · intro ⟨a, b, c⟩; exact ⟨a, by omega, c⟩
        simp only [eo]
        have ew : wr false f (o, x) = wr false (f.drop (flagsP f)) (packGo (x.F.take (flagsP f)) 0 o, { x with F := x.F.drop (flagsP f) }) := by
          cases f with
          | nil => exact absurd rfl e0
          | cons c r =>
            have hc : c = 102 := by
              by_cases hc : c = 102
              · exact hc
              · simp [flagsP, hc] at e1
            subst hc
            have e : flagsP (102 :: r) = flagsP r + 1 := by simp [flagsP]
            have w1 : wr false (102 :: r) (o, x) = wr true r (o ++ packGo (x.F.take (flagsP (102 :: r))) 0 [], { x with F := x.F.tail }) := by
              conv => lhs; unfold wr
              simp
            rw [w1, wr_run, ← packGo_nil, e]
            simp only [List.drop_succ_cons, List.drop_tail]
        rw [ew]
    · rw [if_neg e1]
      have n102 := flagsP_zero e1 e0
      cases f with
      | nil => exact absurd rfl e0
      | cons c r =>
        simp only [List.getD_cons_zero, List.drop_succ_cons, List.drop_zero] at n102 ⊢
        have hlr : ∀ c ∈ r, letterD c := fun d hd => hl d (List.mem_cons_of_mem _ hd)
        have hc := hl c (List.mem_cons_self ..)
        have ef : isF c = false := by simp [isF, n102]
        simp only [List.countP_cons] at ht
        obtain ⟨N, S, F, T⟩ := x
        unfold oneW
        by_cases k1 : c = 115
        · subst k1
          simp only [if_true]
          cases S with
          | nil => rw [if_neg]; rfl; intro h; simp [okP, fitsNS] at h
          | cons s S' =>
            simp only
            by_cases hs : s.length > 255
            · rw [if_pos hs, if_neg]
              · rfl
              · intro h
                simp [okP, fitsNS] at h
                omega
            · rw [if_neg hs]
              simp only [Option.bind_some]
              rw [formW_eq k r _ _ (by simp at hk; omega) hlr (by omega)]
              have eo : okP (115 :: r) ⟨N, s :: S', F, T⟩ ↔ okP r ⟨N, S', F, T⟩ := by
                have : s.length ≤ 255 := by omega
                simp [okP, fitsNS, List.countP_cons, isF, isT, this]
              simp only [eo]
              have ew : wr false (115 :: r) (o, ⟨N, s :: S', F, T⟩) = wr false r (o ++ octsN 1 s.length ++ s, ⟨N, S', F, T⟩) := by
                conv => lhs; unfold wr
                simp
              rw [ew]
        simp only [if_neg k1]
        by_cases k2 : c = 108
        · subst k2
          simp only [if_true]
          cases S with
          | nil => rw [if_neg]; rfl; intro h; simp [okP, fitsNS] at h
          | cons s S' =>
            simp only [Option.bind_some]
            rw [formW_eq k r _ _ (by simp at hk; omega) hlr (by omega)]
            have eo : okP (108 :: r) ⟨N, s :: S', F, T⟩ ↔ okP r ⟨N, S', F, T⟩ := by
              simp [okP, fitsNS, List.countP_cons, isF, isT]
            simp only [eo]
            have ew : wr false (108 :: r) (o, ⟨N, s :: S', F, T⟩) = wr false r (o ++ octsN 4 s.length ++ s, ⟨N, S', F, T⟩) := by
              conv => lhs; unfold wr
              simp
            rw [ew]
        simp only [if_neg k2]
        by_cases k3 : c = 116
        · subst k3
          simp only [if_true]
          rw [tableP_eq]
          have et : isT 116 = true := rfl
          rw [et, if_pos rfl] at ht
          by_cases hT : tableOkP T = true
          · rw [if_pos hT]
            simp only [Option.bind_some]
            rw [formW_eq k r _ _ (by simp at hk; omega) hlr (by omega)]
            have c0 : r.countP isT = 0 := by omega
            have eo : okP (116 :: r) ⟨N, S, F, T⟩ ↔ okP r ⟨N, S, F, []⟩ := by
              simp [okP, fitsNS, List.countP_cons, isF, isT, hT, tableOk_nil]
              intro _ _
              left
              have : List.countP isT r = 0 := c0
              exact fun a ha => by
                have := List.countP_eq_zero.1 c0 a ha
                simpa [isT] using this
            simp only [eo]
            have ew : wr false (116 :: r) (o, ⟨N, S, F, T⟩) = wr false r (o ++ octsN 4 (rowsR 8 T).length ++ rowsR 8 T, ⟨N, S, F, T⟩) := by
              conv => lhs; unfold wr
              simp
            rw [ew]
            have wT : ∀ (f : Oct) (b : Bool) (o : Oct) (N : List Nat) (S : List Oct) (F : List Bool) (T T' : List PF), f.countP isT = 0 → wr b f (o, ⟨N, S, F, T⟩) = wr b f (o, ⟨N, S, F, T'⟩) := by
              intro f
              induction f with
              | nil => intros; rfl
              | cons c r ih =>
                intro b o N S F T T' h0
                simp only [List.countP_cons] at h0
                have hr : r.countP isT = 0 := by omega
                have hne : ¬ c = 116 := by
                  intro e; subst e
                  rw [show isT 116 = true from rfl, if_pos rfl] at h0
                  omega
                unfold wr
                simp only [if_neg hne]
                repeat' split
                all_goals exact ih _ _ _ _ _ _ _ hr
            rw [wT r false _ N S F T [] c0]
          · rw [if_neg hT]
            rw [if_neg]
            · rfl
            · intro h
              exact hT h.2.2.2
        simp only [if_neg k3]
        have k4 : ¬ (c = 115 ∨ c = 108) := by rintro (e | e); exact k1 e; exact k2 e
        have k5 : ¬ (c = 116 ∨ c = 102) := by rintro (e | e); exact k3 e; exact n102 e
        cases N with
        | nil => rw [if_neg]; rfl; intro h; simp [okP, fitsNS, k1, k2, k3, n102] at h
        | cons v N' =>
          simp only
          by_cases hv : c.toNat - 48 = 8 ∨ v / 256 ^ (c.toNat - 48) = 0
          · rw [if_pos hv]
            simp only [Option.bind_some]
            have et : isT c = false := by simp [isT, k3]
            rw [et] at ht
            rw [formW_eq k r _ _ (by simp at hk; omega) hlr (by simpa using ht)]
            have hvb : (decide (c.toNat - 48 = 8) || decide (v / 256 ^ (c.toNat - 48) = 0)) = true := by simpa using hv
            have eo : okP (c :: r) ⟨v :: N', S, F, T⟩ ↔ okP r ⟨N', S, F, T⟩ := by
              unfold okP
              simp only [List.countP_cons, ef, et, fitsNS, if_neg k4, if_neg k5, hvb, Bool.true_and]
              simp
            simp only [eo]
            have ew : wr false (c :: r) (o, ⟨v :: N', S, F, T⟩) = wr false r (o ++ octsN (c.toNat - 48) v, ⟨N', S, F, T⟩) := by
              conv => lhs; unfold wr
              simp [k1, k2, k3, n102]
            rw [ew]
          · rw [if_neg hv, if_neg]
            · rfl
            · intro h
              have hvb : (decide (c.toNat - 48 = 8) || decide (v / 256 ^ (c.toNat - 48) = 0)) = false := by
                rw [Bool.or_eq_false_iff, decide_eq_false_iff_not, decide_eq_false_iff_not]
                exact ⟨fun e => hv (.inl e), fun e => hv (.inr e)⟩
              have := h.1
              simp only [fitsNS, if_neg k4, if_neg k5, hvb, Bool.false_and] at this
              cases this
theorem okP_fits (f : Oct) (x : PM) : okP f x ↔ fitsP f x = true := by
  unfold okP fitsP
  simp only [Bool.and_eq_true, decide_eq_true_eq]
  constructor
  · intro ⟨a, b, c, d⟩; exact ⟨⟨⟨a, b⟩, c⟩, d⟩
  · intro ⟨⟨⟨a, b⟩, c⟩, d⟩; exact ⟨a, b, c, d⟩
theorem methW_eq {a b : Int} {f : Oct} (x : PM) (hf : formP (a, b) = some f) : methW a b x = if fitsP f x = true then some (wr false f (octsN 2 (nat64 a) ++ octsN 2 (nat64 b), x)) else none := by
  have nf := formP_nice hf
  have := formW_eq (f.length + 1) f (octsN 2 (nat64 a) ++ octsN 2 (nat64 b)) x (by omega) nf.1 nf.2.1
  simp only [okP_fits] at this
  rw [← this]
  unfold methW
  rw [hf]
  simp only
  cases formW (f.length + 1) f (octsN 2 (nat64 a) ++ octsN 2 (nat64 b), x) with
  | none => rfl
  | some z => rfl
end Go.Proofs.Ytjkiaeccjelklaa.Pr
end
section
set_option linter.unusedVariables false
set_option linter.unusedSimpArgs false
namespace Go.Proofs.Ytjkiaeccjelklaa.Pr
open Go Go.Lift Go.Proofs
theorem takeP_app {n : Nat} {a t : Oct} (h : a.length = n) : takeP n (a ++ t, false) = (a, t, false) := by
  subst h
  unfold takeP
  rw [if_neg (by simp)]
  simp
end Go.Proofs.Ytjkiaeccjelklaa.Pr
end
section
set_option linter.unusedVariables false
set_option linter.unusedSimpArgs false
namespace Go.Proofs.Ytjkiaeccjelklaa.Pr
open Go Go.Lift Go.Proofs
def i64P : Nat → List PF → Prop
  | 0, _ => True
  | d + 1, fs => ∀ f ∈ fs, -9223372036854775808 ≤ f.n ∧ f.n ≤ 9223372036854775807 ∧ i64P d f.t
theorem field_eta (f : PF) : PF.mk f.name f.kind f.n f.s f.t = f := by cases f; rfl
theorem takeP_bad {n : Nat} {p : Oct} : takeP n (p, true) = ([], [], true) := by unfold takeP; rw [if_pos (.inl rfl)]
theorem measP_bad {n : Nat} {p : Oct} : measP n (p, true) = ([], [], true) := by unfold measP; rw [if_pos (.inl rfl)]
theorem unpackP_bad : ∀ (k i c : Nat) (s : RS), s.2 = true → (unpackP k i c s).2.2 = true
  | 0, _, _, s, h => h
  | k + 1, i, c, (s, b), h => by
    simp only at h; subst h
    unfold unpackP
    split
    · exact unpackP_bad k _ _ _ (by rw [takeP_bad])
    · exact unpackP_bad k _ _ _ rfl
theorem oneP_bad {c : UInt8} {s : RS} {x : PM} (h : s.2 = true) : (oneP c s x).2.2.2 = true := by
  obtain ⟨s, b⟩ := s
  simp only at h; subst h
  unfold oneP
  repeat' split
  all_goals simp only [takeP_bad, measP_bad]
theorem formR_bad : ∀ (k : Nat) (f : Oct) (s : RS) (x : PM) (ok : Bool), s.2 = true → (formR k f s x ok).2.2.2 = true
  | 0, _, s, _, _, h => h
  | k + 1, f, s, x, ok, h => by
    unfold formR
    split
    · exact h
    · split
      · exact formR_bad k _ _ _ _ (unpackP_bad _ _ _ _ h)
      · exact formR_bad k _ _ _ _ (oneP_bad h)
theorem flagsP_count : ∀ (f : Oct), (f.drop (flagsP f)).count 116 = f.count 116
  | [] => by simp
  | c :: r => by
    unfold flagsP
    split
    · rename_i e
      subst e
      rw [List.drop_succ_cons, flagsP_count r, List.count_cons, if_neg (by decide), Nat.add_zero]
    · rfl
theorem forms_one : ∀ x ∈ knownL, x.2.count 116 ≤ 1 := by decide +kernel
end Go.Proofs.Ytjkiaeccjelklaa.Pr
end
section
set_option linter.unusedVariables false
set_option linter.unusedSimpArgs false
namespace Go.Proofs.Ytjkiaeccjelklaa.Pr
open Go Go.Lift Go.Proofs
def docR : Oct → Oct → Nat → Nat → PM → Option (PM × Oct)
  | [], s, _, _, x => some (x, s)
  | c :: r, s, fl, cur, x =>
    if c = 102 then
      if fl % 8 = 0 then
        if (takeP 1 (s, false)).2.2 = true then none
        else docR r (takeP 1 (s, false)).2.1 (fl + 1) (numN (takeP 1 (s, false)).1) { x with F := x.F ++ [bitOf (numN (takeP 1 (s, false)).1) (fl % 8)] }
      else docR r s (fl + 1) cur { x with F := x.F ++ [bitOf cur (fl % 8)] }
    else
      if (oneP c (s, false) x).2.1 = false ∨ (oneP c (s, false) x).2.2.2 = true then none
      else docR r (oneP c (s, false) x).2.2.1 0 cur (oneP c (s, false) x).1
theorem docR_cons (c : UInt8) (r s : Oct) (fl cur : Nat) (x : PM) : docR (c :: r) s fl cur x =
    if c = 102 then
      if fl % 8 = 0 then
        if (takeP 1 (s, false)).2.2 = true then none
        else docR r (takeP 1 (s, false)).2.1 (fl + 1) (numN (takeP 1 (s, false)).1) { x with F := x.F ++ [bitOf (numN (takeP 1 (s, false)).1) (fl % 8)] }
      else docR r s (fl + 1) cur { x with F := x.F ++ [bitOf cur (fl % 8)] }
    else
      if (oneP c (s, false) x).2.1 = false ∨ (oneP c (s, false) x).2.2.2 = true then none
      else docR r (oneP c (s, false) x).2.2.1 0 cur (oneP c (s, false) x).1 := rfl
theorem formR_no : ∀ (k : Nat) (f : Oct) (s : RS) (x : PM), (formR k f s x false).2.1 = false
  | 0, _, _, _ => rfl
  | k + 1, f, s, x => by
    unfold formR
    split
    · rfl
    · split
      · exact formR_no k _ _ _
      · rw [Bool.and_false]; exact formR_no k _ _ _
theorem docR_cur : ∀ (r s : Oct) (cur : Nat) (x : PM), docR r s 0 cur x = docR r s 0 0 x
  | [], _, _, _ => rfl
  | c :: r, s, cur, x => by
    unfold docR
    by_cases h : c = 102
    · rw [if_pos h, if_pos h, if_pos rfl, if_pos rfl]
    · rw [if_neg h, if_neg h]
      split
      · rfl
      · exact docR_cur r _ cur _
theorem docR_reset {r : Oct} (hr : flagsP r = 0) (s : Oct) (fl cur : Nat) (x : PM) : docR r s fl cur x = docR r s 0 0 x := by
  cases r with
  | nil => rfl
  | cons c r =>
    have h : c ≠ 102 := by
      intro e
      unfold flagsP at hr
      rw [if_pos e] at hr
      omega
    unfold docR
    rw [if_neg h, if_neg h]
    split
    · rfl
    · exact docR_cur r _ cur _
theorem docR_flags : ∀ (f s : Oct) (fl cur : Nat) (x : PM), ∃ c2, docR f s fl cur x = if (unpackP (flagsP f) fl cur (s, false)).2.2 = true then none else docR (f.drop (flagsP f)) (unpackP (flagsP f) fl cur (s, false)).2.1 (fl + flagsP f) c2 { x with F := x.F ++ (unpackP (flagsP f) fl cur (s, false)).1 }
  | [], s, fl, cur, x => ⟨cur, by simp [flagsP, unpackP]⟩
  | c :: r, s, fl, cur, x => by
    by_cases h : c = 102
    · have e1 : flagsP (c :: r) = flagsP r + 1 := by show (if c = 102 then flagsP r + 1 else 0) = _; rw [if_pos h]
      rw [e1, List.drop_succ_cons]
      rw [docR_cons, if_pos h]
      by_cases h8 : fl % 8 = 0
      · rw [if_pos h8]
        have eu : ∀ z : RS, unpackP (flagsP r + 1) fl cur z = (bitOf (numN (takeP 1 z).1) (fl % 8) :: (unpackP (flagsP r) (fl + 1) (numN (takeP 1 z).1) (takeP 1 z).2).1, (unpackP (flagsP r) (fl + 1) (numN (takeP 1 z).1) (takeP 1 z).2).2) := by
          intro z; conv => lhs; unfold unpackP
          rw [if_pos h8]
        rw [eu]
        cases ht : takeP 1 (s, false) with
        | mk a b =>
          obtain ⟨b, bad⟩ := b
          cases bad with
          | true =>
            refine ⟨0, ?_⟩
            rw [if_pos rfl, if_pos (unpackP_bad _ _ _ _ rfl)]
          | false =>
            obtain ⟨c2, e⟩ := docR_flags r b (fl + 1) (numN a) { x with F := x.F ++ [bitOf (numN a) (fl % 8)] }
            refine ⟨c2, ?_⟩
            rw [if_neg (by simp), e]
            simp only [List.append_assoc, List.singleton_append]
            rw [show fl + 1 + flagsP r = fl + (flagsP r + 1) by omega]
      · rw [if_neg h8]
        have eu : ∀ z : RS, unpackP (flagsP r + 1) fl cur z = (bitOf cur (fl % 8) :: (unpackP (flagsP r) (fl + 1) cur z).1, (unpackP (flagsP r) (fl + 1) cur z).2) := by
          intro z; conv => lhs; unfold unpackP
          rw [if_neg h8]
        rw [eu]
        obtain ⟨c2, e⟩ := docR_flags r s (fl + 1) cur { x with F := x.F ++ [bitOf cur (fl % 8)] }
        refine ⟨c2, ?_⟩
        rw [e]
        simp only [List.append_assoc, List.singleton_append]
        rw [show fl + 1 + flagsP r = fl + (flagsP r + 1) by omega]
    · have e1 : flagsP (c :: r) = 0 := by show (if c = 102 then flagsP r + 1 else 0) = _; rw [if_neg h]
      refine ⟨cur, ?_⟩
      rw [e1]
      simp [unpackP]
theorem flagsP_drop : ∀ f : Oct, flagsP (f.drop (flagsP f)) = 0
  | [] => rfl
  | c :: r => by
    by_cases h : c = 102
    · have e1 : flagsP (c :: r) = flagsP r + 1 := by show (if c = 102 then flagsP r + 1 else 0) = _; rw [if_pos h]
      rw [e1, List.drop_succ_cons]; exact flagsP_drop r
    · have e1 : flagsP (c :: r) = 0 := by show (if c = 102 then flagsP r + 1 else 0) = _; rw [if_neg h]
      rw [e1, List.drop_zero]; exact e1
theorem docR_eq : ∀ (k : Nat) (f s : Oct) (x : PM), f.length < k → docR f s 0 0 x = if (formR k f (s, false) x true).2.1 = false ∨ (formR k f (s, false) x true).2.2.2 = true then none else some ((formR k f (s, false) x true).1, (formR k f (s, false) x true).2.2.1)
  | 0, _, _, _, h => absurd h (Nat.not_lt_zero _)
  | k + 1, f, s, x, h => by
    unfold formR
    by_cases f0 : f = []
    · subst f0
      simp [docR]
    rw [if_neg f0]
    by_cases hf : 0 < flagsP f
    · rw [if_pos hf]
      obtain ⟨c2, e⟩ := docR_flags f s 0 0 x
      rw [e]
      cases hu : unpackP (flagsP f) 0 0 (s, false) with
      | mk a b =>
        obtain ⟨b, bad⟩ := b
        simp only
        have fl := flagsP_le f
        cases bad with
        | true => rw [if_pos rfl, if_pos (.inr (formR_bad _ _ _ _ _ rfl))]
        | false =>
          rw [if_neg (by simp), docR_reset (flagsP_drop f), docR_eq k _ _ _ (by rw [List.length_drop]; omega)]
    · rw [if_neg hf]
      obtain ⟨c, r, rfl⟩ := List.exists_cons_of_ne_nil f0
      have hc102 : c ≠ 102 := by
        intro e
        apply hf
        unfold flagsP
        rw [if_pos e]; omega
      have e0 : (c :: r).getD 0 0 = c := rfl
      have dr : (c :: r).drop 1 = r := rfl
      rw [e0, dr]
      unfold docR
      rw [if_neg hc102]
      cases ho : oneP c (s, false) x with
      | mk y z =>
        obtain ⟨ok, t, bad⟩ := z
        simp only
        cases ok with
        | false =>
          rw [if_pos (.inl rfl), Bool.false_and, if_pos (.inl (formR_no _ _ _ _))]
        | true =>
          cases bad with
          | true => rw [if_pos (.inr rfl), if_pos (.inr (formR_bad _ _ _ _ _ rfl))]
          | false =>
            rw [if_neg (by simp), Bool.true_and, docR_eq k r t y (by simp at h; omega)]
def docM (b : Oct) : Sum Nat (Int × Int × PM) :=
  if (takeP 2 (takeP 2 (b, false)).2).2.2 = true then .inl 4
  else match formP ((numN (takeP 2 (b, false)).1 : Int), (numN (takeP 2 (takeP 2 (b, false)).2).1 : Int)) with
    | none => .inl 5
    | some f => match docR f (takeP 2 (takeP 2 (b, false)).2).2.1 0 0 noM with
      | none => .inl 4
      | some (x, s) => if s ≠ [] then .inl 4 else .inr ((numN (takeP 2 (b, false)).1 : Int), (numN (takeP 2 (takeP 2 (b, false)).2).1 : Int), x)
theorem docM_eq (b : Oct) : docM b = methP b := by
  unfold docM methP
  cases h2 : takeP 2 (takeP 2 (b, false)).2 with
  | mk a z =>
    obtain ⟨s, bad⟩ := z
    cases bad with
    | true => rw [if_pos rfl, if_pos rfl]
    | false =>
      rw [if_neg (by simp), if_neg (by simp)]
      cases hf : formP ((numN (takeP 2 (b, false)).1 : Int), (numN a : Int)) with
      | none => rfl
      | some f =>
        simp only
        rw [docR_eq (f.length + 1) f s noM (by omega)]
        cases hr : formR (f.length + 1) f (s, false) noM true with
        | mk y r =>
          obtain ⟨ok, t, bad⟩ := r
          cases ok <;> cases bad <;> simp
end Go.Proofs.Ytjkiaeccjelklaa.Pr
end
section
set_option linter.unusedVariables false
namespace Go.Proofs.Ytjkiaeccjelklaa.Pr
open Go Go.Lift Go.Proofs
theorem refNum_loop {K : KT} {p : OA} {l c at' n : Nat} {bs : Oct} {h : Heap} (s : Sl 1 h p l (u8s bs)) (hb : bs.length < 1099511627776) (hn : at' + n ≤ bs.length) (hK : K (.tuple #[.int .u64 (numN ((bs.drop at').take n) : Nat), .bool true]) h) :
    ∀ (fuel i : Nat), n - i < fuel → i ≤ n → qat.L2 K fuel p l c at' n (numN ((bs.drop at').take i) : Nat) i h
  | 0, _, hf, _ => absurd hf (Nat.not_lt_zero _)
  | fuel + 1, i, hf, hi => by
    have el := Sl.len s
    unfold qat.L2
    by_cases hlt : i < n
    · have hlt' : at' + i < bs.length := by omega
      have ew : IntKind.i64.wrap ((at' : Int) + (i : Int)) = ((at' + i : Nat) : Int) := by rw [wrapI (by omega) (by omega)]; omega
      refine ifT (by simp; omega) ⟨by omega, ?_⟩
      refine ix_u8 s ew (List.getElem?_eq_getElem hlt') ?_
      simp only [bd]
      rw [or_step, wsucc (by omega)]
      have en : (numN ((bs.drop at').take i) * 256 + bs[at' + i].toNat) % 18446744073709551616 = numN ((bs.drop at').take (i + 1)) := by
        rw [List.take_succ_eq_append_getElem (show i < (bs.drop at').length by simp; omega), numN, numN, List.foldl_append]
        simp
      rw [en]
      exact refNum_loop s hb hn hK fuel (i + 1) (by omega) (by omega)
    · refine ifF (by simp; omega) ?_
      obtain rfl : i = n := by omega
      exact hK
def numAt (bs : Oct) (at' n : Nat) : Option Nat := if at' + n ≤ bs.length then some (numN ((bs.drop at').take n)) else none
theorem refNum.spec {K : KT} {p : OA} {l c at' n : Nat} {bs : Oct} {h : Heap} (s : Sl 1 h p l (u8s bs)) (hb : bs.length < 1099511627776) (ha : at' < 1099511627776) (hn : n < 1099511627776)
    (h0 : at' ≤ bs.length ∨ 1 ≤ n) (hK : K (.tuple #[.int .u64 (((numAt bs at' n).getD 0 : Nat) : Int), .bool (numAt bs at' n).isSome]) h) : CallsH P F.qat [.slice p l c, .int .i64 at', .int .i64 n] K h := by
  refine qat.ok ?_
  unfold qat.p0 qat.j1
  have el := Sl.len s
  have ew : IntKind.i64.wrap ((l : Int) - (at' : Int)) = (l : Int) - (at' : Int) := wrapI (by omega) (by omega)
  rw [ew]
  refine ifF' (by simp) ?_
  unfold numAt at hK
  by_cases hlt : at' + n ≤ bs.length
  · rw [if_pos hlt] at hK
    refine ifF (by simp; omega) ⟨n + 1, refNum_loop s hb hlt hK _ 0 (by omega) (by omega)⟩
  · rw [if_neg hlt] at hK
    exact ifT (by simp; omega) hK
theorem Put_loop {K : KT} {v b0 : Nat} {h0 : Heap} (hb0 : b0 = h0.size) :
    ∀ (m : Nat) (p : OA) (l c : Nat) (cs : Oct) (h : Heap), m ≤ 8 → cs.length + m < 3298534883328 → Own 1 h p l c (u8s cs) → Fr b0 p → Kept h0 h →
      (∀ p' l' c' h', Own 1 h' p' l' c' (u8s (cs ++ octsN m v)) → Fr b0 p' → Kept h0 h' → K (.slice p' l' c') h') → qbb.L1 K (m + 1) v p l c ((m : Int) - 1) h
  | 0, p, l, c, cs, h, hm, hc, o, f, k, hK => by
    unfold qbb.L1
    refine ifF (by simp) (hK _ _ _ _ (by simpa [octsN] using o) f k)
  | m + 1, p, l, c, cs, h, hm, hc, o, f, k, hK => by
    unfold qbb.L1
    have e : (((m + 1 : Nat) : Int) - 1) = (m : Int) := by omega
    rw [e]
    have e8 : IntKind.u64.wrap (IntKind.i64.wrap ((8 : Int) * (m : Int))) = ((8 * m : Nat) : Int) := by
      rw [wrapI (by omega) (by omega), IntKind.wrap_u64]; omega
    rw [e8]
    refine ifT (by simp) ⟨by omega, ?_⟩
    simp only [bd]
    rw [oct_wrap (by omega)]
    have s : Sl 1 (al h #[.int .u8 ((octN v m).toNat : Int)] T.uint8) (some (top h)) 1 (u8s [octN v m]) := ⟨rfl, (Mem.new h (u8s [octN v m]) T.uint8).1⟩
    have o' := o.kept (Keeps.al _ h #[.int .u8 ((octN v m).toNat : Int)] T.uint8)
    have hbs : b0 ≤ (al h #[.int .u8 ((octN v m).toNat : Int)] T.uint8).size := by rw [al_size]; have := k.size; omega
    refine app o' f hbs (Src.slice s (u8s_one _)) (by simp; omega) fun p' c' h' o2 f2 k2 => ⟨_, _, _, rfl, ?_⟩
    have ew : IntKind.i64.wrap ((m : Int) - 1) = (m : Int) - 1 := wrapI (by omega) (by omega)
    rw [ew]
    subst hb0
    refine Put_loop rfl m p' (l + 1) c' (cs ++ [octN v m]) h' (by omega) (by simp; omega) o2 f2 (Kept.since (k.trans (Keeps.al _ h _ _)) k2) fun p3 l3 c3 h3 o3 f3 k3 => hK p3 l3 c3 h3 ?_ f3 k3
    simpa [octsN] using o3
theorem Put.spec {K : KT} {p : OA} {l c n v : Nat} {bs : Oct} {h : Heap} (s : Sl 1 h p l (u8s bs)) (hb : bs.length < 1099511627776) (h8 : n ≤ 8)
    (hK : ∀ p' l' c' h', Own 1 h' p' l' c' (u8s (bs ++ octsN n v)) → Fr h.size p' → Kept h h' → K (.slice p' l' c') h') : CallsH P F.qbb [.slice p l c, .int .i64 n, .int .u64 v] K h := by
  refine qbb.ok ?_
  unfold qbb.p0
  simp only [bd]
  have o0 : Own 1 (al h #[] T.uint8) (some (top h)) 0 0 (u8s []) := ⟨rfl, Nat.le_refl _, [], rfl, Mem.new h [] T.uint8⟩
  refine app o0 (Fr.top (Nat.le_refl h.size)) (by rw [al_size]; omega) (Src.slice (s.kept (Keeps.al _ h #[] T.uint8)) (u8s_one bs)) (by simp; omega) fun p' c' h' o' f' k' => ⟨_, _, _, rfl, ?_⟩
  have ew : IntKind.i64.wrap ((n : Int) - 1) = (n : Int) - 1 := wrapI (by omega) (by omega)
  rw [ew]
  exact ⟨n + 1, Put_loop rfl n p' (0 + l) c' bs h' h8 (by omega) o' f' (Kept.since (Keeps.al _ h _ _) k') hK⟩
theorem refShort.spec {K : KT} {p : OA} {l c : Nat} {bs cs : Oct} {h : Heap} (s : Sl 1 h p l (u8s bs)) (hb : bs.length < 1099511627776) (hc : cs.length < 1099511627776)
    (hK : ∀ p' l' c' h', Own 1 h' p' l' c' (u8s (bs ++ octsN 1 cs.length ++ cs)) → Fr h.size p' → Kept h h' → K (.slice p' l' c') h') : CallsH P F.qbo [.slice p l c, .string (mkS cs)] K h := by
  refine qbo.ok ?_
  unfold qbo.p0
  rw [wrap_len (by omega)]
  refine Put.spec (n := 1) s hb (by omega) fun p' l' c' h' o f k => ⟨_, _, _, rfl, ?_⟩
  refine apps o f k.size (by simp [octsN_length]; omega) fun p2 l2 c2 h2 o2 f2 k2 => ⟨_, _, _, rfl, ?_⟩
  exact hK p2 l2 c2 h2 o2 f2 (Kept.since k k2)
theorem refLong.spec {K : KT} {p q : OA} {l c m d : Nat} {bs cs : Oct} {h : Heap} (s : Sl 1 h p l (u8s bs)) (t : Sl 1 h q m (u8s cs)) (hb : bs.length < 1099511627776) (hc : cs.length < 1099511627776)
    (hK : ∀ p' l' c' h', Own 1 h' p' l' c' (u8s (bs ++ octsN 4 cs.length ++ cs)) → Fr h.size p' → Kept h h' → K (.slice p' l' c') h') : CallsH P F.qbr [.slice p l c, .slice q m d] K h := by
  refine qbr.ok ?_
  unfold qbr.p0
  obtain rfl := Sl.len t
  rw [wrap_len (by omega)]
  refine Put.spec (n := 4) s hb (by omega) fun p' l' c' h' o f k => ⟨_, _, _, rfl, ?_⟩
  refine app o f k.size (Src.slice (t.kept k) (u8s_one cs)) (by simp [octsN_length]; omega) fun p2 c2 h2 o2 f2 k2 => ⟨_, _, _, rfl, ?_⟩
  exact hK _ _ _ _ o2 f2 (Kept.since k k2)
def textAt (bs : Oct) (at' n : Nat) : Option (Oct × Nat) := match numAt bs at' n with
  | none => none
  | some v => if at' + n + v ≤ bs.length then some ((bs.drop (at' + n)).take v, at' + n + v) else none
theorem refText.spec {K : KT} {p : OA} {l c at' n : Nat} {bs : Oct} {h : Heap} (s : Sl 1 h p l (u8s bs)) (hlc : l ≤ c) (hb : bs.length < 1099511627776) (ha : at' ≤ bs.length) (hn : n ≤ 8)
    (h1 : textAt bs at' n = none → K (.tuple #[.slice none 0 0, .int .i64 0, .bool false]) h)
    (h2 : ∀ q m d t e, textAt bs at' n = some (t, e) → Sl 1 h q m (u8s t) → m ≤ d → (∀ a, q = some a → ∃ b, p = some b ∧ b.block = a.block) → K (.tuple #[.slice q m d, .int .i64 (e : Nat), .bool true]) h) :
    CallsH P F.qba [.slice p l c, .int .i64 at', .int .i64 n] K h := by
  refine qba.ok ?_
  unfold qba.p0
  have el := Sl.len s
  refine refNum.spec s hb (by omega) (by omega) (.inl ha) ⟨_, _, rfl, ?_⟩
  have miss : textAt bs at' n = none → ∀ v : Int, qba.j1 K p l c at' n v true h := by
    intro e v
    unfold qba.j1
    exact ifT rfl (h1 e)
  cases hx : numAt bs at' n with
  | none => exact ifT' rfl (miss (by simp [textAt, hx]) _)
  | some v =>
    have hin : at' + n ≤ bs.length := by
      unfold numAt at hx
      split at hx
      · assumption
      · cases hx
    have hv : v < 18446744073709551616 := by
      unfold numAt at hx
      rw [if_pos hin] at hx
      cases hx
      exact numN_lt _
    refine ifF' rfl ?_
    simp only [Option.getD_some]
    have e1 : IntKind.u64.wrap (IntKind.i64.wrap (IntKind.i64.wrap ((l : Int) - (at' : Int)) - (n : Int))) = ((l - at' - n : Nat) : Int) := by
      rw [wrapI (n := (l : Int) - (at' : Int)) (by omega) (by omega), wrapI (by omega) (by omega), IntKind.wrap_u64]; omega
    rw [e1]
    by_cases hg : at' + n + v ≤ bs.length
    · rw [decide_eq_false (by omega)]
      have ht : textAt bs at' n = some ((bs.drop (at' + n)).take v, at' + n + v) := by simp [textAt, hx, hg]
      unfold qba.j1
      refine ifF rfl ?_
      simp only [bd]
      have e2 : IntKind.i64.wrap ((at' : Int) + (n : Int)) = ((at' + n : Nat) : Int) := by rw [wrapI (by omega) (by omega)]; omega
      have e3 : IntKind.i64.wrap (v : Int) = (v : Int) := wrapI (by omega) (by omega)
      rw [e2, e3]
      have e4 : IntKind.i64.wrap (((at' + n : Nat) : Int) + (v : Int)) = ((at' + n + v : Nat) : Int) := by rw [wrapI (by omega) (by omega)]; omega
      rw [e4]
      refine ⟨⟨by omega, by omega⟩, ⟨by omega, by omega⟩, ?_⟩
      simp only [Int.toNat_natCast]
      have sd := Lift.Sl.drop s hlc (n := at' + n) (by omega)
      have st := Lift.Sl.take sd (n := v) (by omega)
      rw [u8s_drop, u8s_take] at st
      have ev : at' + n + v - (at' + n) = v := by omega
      rw [ev]
      exact h2 _ _ _ _ _ ht st (by omega) fun a e => slA_block e
    · rw [decide_eq_true (by omega)]
      exact miss (by simp [textAt, hx]; omega) _
end Go.Proofs.Ytjkiaeccjelklaa.Pr
end
section
set_option linter.unusedVariables false
set_option linter.unusedSimpArgs false
namespace Go.Proofs.Ytjkiaeccjelklaa.Pr
open Go Go.Lift Go.Proofs
section
variable {K : KT} {L R : List Asr} {h : Heap}
theorem rputS {s : SV} {n v : Nat} {bs : Oct} (S : St L h) (sl : Sl 1 h s.1 s.2.1 (u8s bs)) (hb : bs.length < 1099511627776) (h8 : n ≤ 8)
    (hK : ∀ p l c h', St (Ow 1 (p, l, c) (u8s (bs ++ octsN n v)) :: L) h' → K (.slice p l c) h') : CallsH P F.qbb [.slice s.1 s.2.1 s.2.2, .int .i64 n, .int .u64 v] K h :=
  Put.spec sl hb h8 fun p l c h' o f k => hK p l c h' (S.owNew o f k)
theorem rrshortS {s : SV} {bs cs : Oct} (S : St L h) (sl : Sl 1 h s.1 s.2.1 (u8s bs)) (hb : bs.length < 1099511627776) (hc : cs.length < 1099511627776)
    (hK : ∀ p l c h', St (Ow 1 (p, l, c) (u8s (bs ++ octsN 1 cs.length ++ cs)) :: L) h' → K (.slice p l c) h') : CallsH P F.qbo [.slice s.1 s.2.1 s.2.2, .string (mkS cs)] K h :=
  refShort.spec sl hb hc fun p l c h' o f k => hK p l c h' (S.owNew o f k)
theorem rrlongS {s t : SV} {bs cs : Oct} (S : St L h) (sl : Sl 1 h s.1 s.2.1 (u8s bs)) (tl : Sl 1 h t.1 t.2.1 (u8s cs)) (hb : bs.length < 1099511627776) (hc : cs.length < 1099511627776)
    (hK : ∀ p l c h', St (Ow 1 (p, l, c) (u8s (bs ++ octsN 4 cs.length ++ cs)) :: L) h' → K (.slice p l c) h') : CallsH P F.qbr [.slice s.1 s.2.1 s.2.2, .slice t.1 t.2.1 t.2.2] K h :=
  refLong.spec sl tl hb hc fun p l c h' o f k => hK p l c h' (S.owNew o f k)
theorem textAt_ne {bs t : Oct} {a n e : Nat} (h : textAt bs a n = some (t, e)) : t ≠ [] → bs ≠ [] := by
  intro ht hb
  subst hb
  unfold textAt at h
  split at h
  · cases h
  · split at h
    · simp at h; exact ht h.1
    · cases h
theorem rtextS {s : SV} {bs : Oct} {a n : Nat} (S : St L h) [m : In (fun b => Im 1 s (u8s b)) L bs] (hb : bs.length < 1099511627776) (ha : a ≤ bs.length) (hn : n ≤ 8)
    (h1 : textAt bs a n = none → K (.tuple #[.slice none 0 0, .int .i64 0, .bool false]) h)
    (h2 : ∀ q m d t e, textAt bs a n = some (t, e) → St (Im 1 (q, m, d) (u8s t) :: L) h → K (.tuple #[.slice q m d, .int .i64 (e : Nat), .bool true]) h) :
    CallsH P F.qba [.slice s.1 s.2.1 s.2.2, .int .i64 a, .int .i64 n] K h := by
  have sl := isl8 S (s := s) (bs := bs)
  refine refText.spec sl.1 sl.2 hb ha hn h1 fun q m' d t e he hs hmd hbl => h2 q m' d t e he (S.imSub m.mem (fun a' e' hv => ⟨?_, ?_⟩) hs hmd)
  · intro hb0
    have : bs = [] := by simpa [u8s] using hb0
    exact textAt_ne he (by intro e2; subst e2; exact hv rfl) this
  · exact hbl a' e'
theorem tbElem {B : Nat → Prop} {s : SV} {fs : List PF} {i : Nat} (S : St L h) [m : In (Tb B s) L fs] (hi : i < fs.length) : ∃ (a : Addr) (t : SV), s.1 = some a ∧ rdC h (a.add (i * 5)) 0 5 = some (fcells (fs[i], t)) ∧
    (∀ k v, (fcells (fs[i], t))[k]? = some v → hcell h ((a.add (i * 5)).add k) = some v) ∧ St (Tb B t fs[i].t :: L) h := by
  obtain ⟨ts, t1, t2, t3, t4, t5⟩ := tbAt S (B := B) (s := s) (fs := fs)
  have hit : i < ts.length := by omega
  have hx : (fs.zip ts)[i]? = some (fs[i], ts[i]) := by rw [List.getElem?_eq_getElem (by rw [List.length_zip]; omega), List.getElem_zip]
  obtain ⟨a, e, ha, hl⟩ := Sl.elem fcells_len t2 (by decide) hx
  exact ⟨a, ts[i], e, ha.rd rfl, fun k v hv => ha.get hv, t5 i fs[i] ts[i] (List.getElem?_eq_getElem hi) (List.getElem?_eq_getElem hit)⟩
theorem nilB (t : SV) (fs : List PF) (e : t.2.1 = fs.length) : ((((t.2.1 : Nat) : Int)) == 0) = decide (fs = []) := by
  rw [Bool.eq_iff_iff, beq_iff_eq, decide_eq_true_eq, ← List.length_eq_zero_iff, ← e]
  omega
theorem strB (s : Oct) : (s == ([] : Oct)) = decide (s = []) := by
  cases s <;> rfl
theorem fieldOkS {B : Nat → Prop} {t : SV} {f : PF} (S : St L h) [In (Tb B t) L f.t] (hK : ∀ h', St L h' → K (.bool (fieldOkP f)) h') : CallsH P F.qax [.agg (List.toArray (fcells (f, t)))] K h := by
  refine qax.ok ?_
  unfold qax.p0
  have S1 := S.al (fcells (f, t)) T.api_Field
  have hK1 := hK _ S1.tl
  have lt := tbLen S (B := B) (s := t)
  simp only [bd]
  generalize al h _ _ = h1 at *
  generalize top h = a at *
  unfold fcells at S1
  simp only [rdT (S1.rc a 0 rfl)]
  have j1 : ∀ b : Bool, (b = false → 1 ≤ f.name.length ∧ f.name.length ≤ 128) → (b = true → ¬ (1 ≤ f.name.length ∧ f.name.length ≤ 128)) → qax.j1 K a b h1 := by
    intro b hb1 hb2
    unfold qax.j1
    cases b with
    | true => exact ifT rfl (by rw [fieldOkP, decide_eq_false (hb2 rfl), Bool.false_and] at hK1; exact hK1)
    | false =>
      rw [fieldOkP, decide_eq_true (hb1 rfl), Bool.true_and] at hK1
      refine ifF rfl ?_
      have e116 := eb8 f.kind 116
      have e73 := eb8 f.kind 73
      have e108 := eb8 f.kind 108
      have e83 := eb8 f.kind 83
      have e70 := eb8 f.kind 70
      have e86 := eb8 f.kind 86
      simp only [show ((116 : UInt8).toNat : Int) = 116 from rfl, show ((73 : UInt8).toNat : Int) = 73 from rfl, show ((108 : UInt8).toNat : Int) = 108 from rfl, show ((83 : UInt8).toNat : Int) = 83 from rfl, show ((70 : UInt8).toNat : Int) = 70 from rfl, show ((86 : UInt8).toNat : Int) = 86 from rfl] at e116 e73 e108 e83 e70 e86
      simp only [rdN (S1.rc a 1 rfl), rdN (S1.rc a 2 rfl), rdT (S1.rc a 3 rfl), rdS (S1.rc a 4 rfl), bd, e116, e73, e108, e83, e70, e86, nilB t f.t lt, strB]
      have fin : ∀ b : Bool, b = (if f.kind = 116 then decide ((f.n = 0 ∨ f.n = 1) ∧ f.s = [] ∧ f.t = [])
          else if f.kind = 73 then decide (-2147483648 ≤ f.n ∧ f.n < 2147483648 ∧ f.s = [] ∧ f.t = [])
          else if f.kind = 108 then decide (f.s = [] ∧ f.t = [])
          else if f.kind = 83 then decide (f.n = 0 ∧ f.t = [])
          else if f.kind = 70 then decide (f.n = 0 ∧ f.s = [])
          else if f.kind = 86 then decide (f.n = 0 ∧ f.s = [] ∧ f.t = [])
          else false) → K (.bool b) h1 := fun b e => by rw [e]; exact hK1
      clear hK1 hK S1 S lt
      repeat' first | with_reducible refine And.intro ?_ ?_ | with_reducible intro _
      all_goals simp only [decide_eq_true_eq, decide_eq_false_iff_not, beq_iff_eq, beq_eq_false_iff_ne, ne_eq] at *
      all_goals
        refine fin _ ?_
        clear fin
        first
          | (simp [*]; done)
          | (simp [*]; omega)
          | (rw [Bool.eq_iff_iff]; simp [*]; done)
  by_cases e1 : f.name.length < 1
  · exact ifT' (by simp; omega) (j1 true (fun e => by cases e) (fun _ => by omega))
  · refine ifF' (by simp; omega) ?_
    by_cases e2 : f.name.length > 128
    · rw [decide_eq_true (by omega)]; exact j1 true (fun e => by cases e) (fun _ => by omega)
    · rw [decide_eq_false (by omega)]; exact j1 false (fun _ => by omega) (fun e => by cases e)
end
theorem wtD_len {d : Nat} {fs : List PF} : fs.length ≤ wtD (d + 1) fs := by
  show _ ≤ (fs.map fun f => 1 + f.name.length + f.s.length + wtD d f.t).sum
  induction fs with
  | nil => simp
  | cons x r ih => simp only [List.length_cons, List.map_cons, List.sum_cons]; omega
def FormC (d : Nat) : Prop := ∀ {K : KT} {L : List Asr} {h : Heap} {B : Nat → Prop} {s : SV} {fs : List PF} (S : St L h) [In (Tb B s) L fs] (hw : wtD d fs ≤ 1073741824) (hK : ∀ h', St L h' → K (.bool (formedP d fs)) h'),
  CallsH P F.qaj [.slice s.1 s.2.1 s.2.2, .int .i64 (9 - (d : Int))] K h
section
variable {K : KT} {L R : List Asr} {h : Heap}
theorem formed_inner {R1 : OA → Nat → Nat → Int → Int → Heap → Prop} {B : Nat → Prop} {s : SV} {fs : List PF} {i : Nat} {deep : Int} (hi : i < fs.length) (hl : fs.length ≤ 1073741824) (S : St L h) [In (Tb B s) L fs] (hdup : fs[i].name ∈ (fs.take i).map PF.name → K (.bool false) h)
    (hno : fs[i].name ∉ (fs.take i).map PF.name → qaj.j2 K R1 s.1 s.2.1 s.2.2 deep i h) : ∀ (fuel k : Nat), i - k < fuel → k ≤ i → fs[i].name ∉ (fs.take k).map PF.name → qaj.L4 K R1 fuel s.1 s.2.1 s.2.2 deep i k h
  | 0, _, hf, _, _ => absurd hf (Nat.not_lt_zero _)
  | fuel + 1, k, hf, hk, hn => by
    have lt := tbLen S (B := B) (s := s)
    unfold qaj.L4
    by_cases hlt : k < i
    · refine ifT (by simp; omega) ?_
      have hk' : k < fs.length := by omega
      obtain ⟨a, t, e, r, g, _⟩ := tbElem S (B := B) (s := s) hi
      obtain ⟨a', t', e', r', g', _⟩ := tbElem S (B := B) (s := s) hk'
      obtain rfl : a' = a := by rw [e] at e'; cases e'; rfl
      refine ⟨a', e, by omega, by omega, a', e, by omega, by omega, ?_⟩
      simp only [Int.toNat_natCast, rdT (g 0 _ rfl), rdT (g' 0 _ rfl)]
      have em : fs[k].name ∈ (fs.take i).map PF.name := List.mem_map.2 ⟨fs[k], by rw [List.mem_take_iff_getElem]; exact ⟨k, by omega, rfl⟩, rfl⟩
      by_cases en : fs[k].name = fs[i].name
      · exact ifT (by simp [en]) (hdup (by rw [← en]; exact em))
      · refine ifF (by simp [en]) ?_
        simp only [bd]
        rw [wsucc (by omega)]
        refine formed_inner (B := B) hi hl S hdup hno fuel (k + 1) (by omega) (by omega) ?_
        rw [List.take_succ_eq_append_getElem hk', List.map_append]
        simp only [List.mem_append, not_or, List.map_cons, List.map_nil, List.mem_singleton]
        exact ⟨hn, fun e => en e.symm⟩
    · refine ifF (by simp; omega) (hno ?_)
      have : k = i := by omega
      subst this
      exact hn
theorem formed_loop {d : Nat} (ih : FormC d) (hd : d ≤ 8) {B : Nat → Prop} {s : SV} {fs : List PF} {res : Bool} (hw : wtD (d + 1) fs ≤ 1073741824) [In (Tb B s) L fs] (hK : ∀ h', St L h' → K (.bool res) h') :
    ∀ (fuel i : Nat) (h : Heap), fs.length - i < fuel → i ≤ fs.length → formGo (formedP d) (fs.drop i) ((fs.take i).map PF.name) = res → St L h → qaj.L1 K fuel s.1 s.2.1 s.2.2 (8 - (d : Int)) i h
  | 0, _, _, hf, _, _, _ => absurd hf (Nat.not_lt_zero _)
  | fuel + 1, i, h, hf, hi, hg, S => by
    have lt := tbLen S (B := B) (s := s)
    have hl := wtD_len (d := d) (fs := fs)
    unfold qaj.L1
    by_cases hlt : i < fs.length
    · refine ifT (by simp; omega) ?_
      obtain ⟨a, t, e, r, g, S1⟩ := tbElem S (B := B) (s := s) hlt
      refine ⟨a, e, by omega, by omega, ?_⟩
      simp only [Int.toNat_natCast, rdC' r]
      have hdrop : fs.drop i = fs[i] :: fs.drop (i + 1) := List.drop_eq_getElem_cons hlt
      rw [hdrop] at hg
      unfold formGo at hg
      refine fieldOkS (B := B) S1 fun h1 S2 => ⟨_, rfl, ?_⟩
      have S3 := S2.tl
      clear g r S1
      cases hok : fieldOkP fs[i] with
      | false =>
        rw [hok] at hg
        simp only [Bool.false_and] at hg
        subst hg
        refine ifT' rfl ?_
        unfold qaj.j3
        exact ifT rfl (hK h1 S3)
      | true =>
        rw [hok] at hg
        simp only [Bool.true_and] at hg
        refine ifF' rfl ?_
        obtain ⟨a', t', e', r', g', S4⟩ := tbElem S3 (B := B) (s := s) hlt
        have e70 := eb8 fs[i].kind 70
        simp only [show ((70 : UInt8).toNat : Int) = 70 from rfl] at e70
        refine ⟨a', e', by omega, by omega, ?_⟩
        simp only [Int.toNat_natCast, rdN (g' 1 _ rfl), e70]
        have go : ∀ h2, St L h2 → (fs[i].kind != 70 || formedP d fs[i].t) = true → qaj.j3 K (qaj.L1 K fuel) s.1 s.2.1 s.2.2 (8 - (d : Int)) i false h2 := by
          intro h2 S5 hsub
          rw [hsub, Bool.true_and] at hg
          unfold qaj.j3
          refine ifF rfl ⟨_, formed_inner (B := B) hlt (by omega) S5 (fun hd => ?_) (fun hn => ?_) _ 0 (Nat.lt_succ_self _) (Nat.zero_le _) (by simp)⟩
          · rw [decide_eq_false (by simpa using hd), Bool.false_and] at hg
            subst hg
            exact hK h2 S5
          · rw [decide_eq_true hn, Bool.true_and] at hg
            unfold qaj.j2
            simp only [bd]
            rw [wsucc (by omega)]
            refine formed_loop (B := B) ih hd hw hK fuel (i + 1) h2 (by omega) (by omega) ?_ S5
            rw [List.take_succ_eq_append_getElem hlt, List.map_append]
            exact hg
        by_cases k70 : fs[i].kind = 70
        · refine ifT (by simp [k70]) ⟨a', e', by omega, by omega, ?_⟩
          have ew : IntKind.i64.wrap ((8 : Int) - (d : Int) + 1) = 9 - (d : Int) := by rw [wrapI (by omega) (by omega)]; omega
          rw [ew]
          have hp := wtD_part (d := d) (List.getElem_mem hlt)
          simp only [rdS (g' 4 _ rfl)]
          refine ih (B := B) (s := t') S4 (by omega) fun h2 S5 => ⟨_, rfl, ?_⟩
          cases hf2 : formedP d fs[i].t with
          | true => exact go h2 S5.tl (by simp [hf2])
          | false =>
            rw [hf2, k70] at hg
            have : res = false := by rw [← hg]; rfl
            subst this
            unfold qaj.j3
            exact ifT rfl (hK h2 S5.tl)
        · exact ifF (by simp [k70]) (go h1 S3 (by simp [k70]))
    · refine ifF (by simp; omega) ?_
      rw [List.drop_eq_nil_of_le (by omega)] at hg
      unfold formGo at hg
      subst hg
      exact hK h S
end
theorem formed_spec : ∀ d : Nat, d ≤ 9 → FormC d
  | 0, _ => by
    intro S _ hw hK
    refine qaj.ok ?_
    unfold qaj.p0
    exact ifT (by decide) (hK _ S)
  | d + 1, hd => by
    intro S _ hw hK; rename_i K L h B s fs _
    have ih : FormC d := formed_spec d (by omega)
    refine qaj.ok ?_
    unfold qaj.p0
    have e : (9 : Int) - ((d + 1 : Nat) : Int) = 8 - (d : Int) := by omega
    rw [e]
    refine ifF (by simp; omega) ⟨fs.length + 1, ?_⟩
    exact formed_loop (B := B) ih (by omega) hw hK _ 0 h (by omega) (Nat.zero_le _) rfl S
def RRowsC (d : Nat) : Prop := ∀ {K : KT} {L : List Asr} {h : Heap} {B : Nat → Prop} {s : SV} {fs : List PF} (S : St L h) [In (Tb B s) L fs] (hf : formedP d fs = true) (hw : wtD d fs ≤ 67108864) (hK : ∀ p l c h', St (Ow 1 (p, l, c) (u8s (rowsR d fs)) :: L) h' → K (.slice p l c) h'),
  CallsH P F.qal [.slice s.1 s.2.1 s.2.2] K h
section
variable {K : KT} {L R : List Asr} {h : Heap}
theorem app1S {o : SV} {bs : Oct} {x : UInt8} {Q : Value → Heap → Prop} (S : St (Ow 1 o (u8s bs) :: L) h) (hl : bs.length < 1099511627776) (hQ : ∀ p l c h', St (Ow 1 (p, l, c) (u8s (bs ++ [x])) :: L) h' → Q (.slice p l c) h') :
    SemH P (Builtin.append_ #[T.sl_uint8, T.sl_uint8] T.sl_uint8 #[.slice o.1 o.2.1 o.2.2, .slice (some (top h)) 1 1]) Q (al h #[.int .u8 (x.toNat : Int)] T.uint8) := by
  have S1 := S.al (u8s [x]) T.uint8
  have src : Src P 1 (al h #[.int .u8 (x.toNat : Int)] T.uint8) (.slice (some (top h)) 1 1) 1 (u8s [x]) := Src.slice (n := 1) ⟨rfl, S1.mem.1⟩ (u8s_one _)
  exact appS (s := o) (bs := bs) (ws := [x]) S1 src (by simp; omega) fun p l c h' S2 => hQ p l c h' S2.d1
theorem rrows_loop {d : Nat} (ih : RRowsC d) {B : Nat → Prop} {s : SV} {fs : List PF} (hf : formedP (d + 1) fs = true) (hw : wtD (d + 1) fs ≤ 67108864) [In (Tb B s) L fs] (hK : ∀ p l c h', St (Ow 1 (p, l, c) (u8s (rowsR (d + 1) fs)) :: L) h' → K (.slice p l c) h') :
    ∀ (fuel i : Nat) (o : SV) (h : Heap), fs.length - i < fuel → i ≤ fs.length → St (Ow 1 o (u8s (rowsR (d + 1) (fs.take i))) :: L) h → qal.L1 K fuel s.1 s.2.1 s.2.2 o.1 o.2.1 o.2.2 i h
  | 0, _, _, _, hfu, _, _ => absurd hfu (Nat.not_lt_zero _)
  | fuel + 1, i, o, h, hfu, hi, S => by
    have lt := tbLen S (B := B) (s := s)
    have hl := wtD_len (d := d) (fs := fs)
    unfold qal.L1
    by_cases hlt : i < fs.length
    · refine ifT (by simp; omega) ?_
      have hmem : fs[i] ∈ fs := List.getElem_mem hlt
      have hok := formGo_mem (show formGo (formedP d) fs [] = true from hf) fs[i] hmem
      have hp := wtD_part (d := d) hmem
      have hpre := rowsR_len (d + 1) (fs.take i)
      have hwt := wtD_take (d := d + 1) fs i
      have next : ∀ p l c h', St (Ow 1 (p, l, c) (u8s (rowsR (d + 1) (fs.take i) ++ rowR (rowsR d) fs[i])) :: L) h' → qal.j2 K (qal.L1 K fuel) s.1 s.2.1 s.2.2 p l c i h' := by
        intro p l c h' S'
        unfold qal.j2
        simp only [bd]
        rw [wsucc (by omega)]
        refine rrows_loop (B := B) ih hf hw hK fuel (i + 1) (p, l, c) h' (by omega) (by omega) ?_
        rw [rowsR_take hlt]
        exact S'
      have hrl := rowsR_len d fs[i].t
      generalize rowsR (d + 1) (fs.take i) = pre at *
      have j3 : ∀ p l c h', St (Ow 1 (p, l, c) (u8s (pre ++ octsN 1 fs[i].name.length ++ fs[i].name ++ [fs[i].kind])) :: L) h' → qal.j3 K (qal.L1 K fuel) s.1 s.2.1 s.2.2 p l c i h' := by
        intro p l c h' S'
        obtain ⟨a, t, e, r, g, S1⟩ := tbElem S' (B := B) (s := s) hlt
        unfold qal.j3
        have e116 := eb8 fs[i].kind 116
        have e73 := eb8 fs[i].kind 73
        have e108 := eb8 fs[i].kind 108
        have e83 := eb8 fs[i].kind 83
        have e70 := eb8 fs[i].kind 70
        simp only [show ((116 : UInt8).toNat : Int) = 116 from rfl, show ((73 : UInt8).toNat : Int) = 73 from rfl, show ((108 : UInt8).toNat : Int) = 108 from rfl, show ((83 : UInt8).toNat : Int) = 83 from rfl, show ((70 : UInt8).toNat : Int) = 70 from rfl] at e116 e73 e108 e83 e70
        refine ⟨a, e, by omega, by omega, ?_⟩
        simp only [Int.toNat_natCast, rdN (g 1 _ rfl), bd, e116, e73, e108, e83, e70]
        have er : ∀ x, valR (rowsR d) fs[i] = x → pre ++ rowR (rowsR d) fs[i] = pre ++ octsN 1 fs[i].name.length ++ fs[i].name ++ [fs[i].kind] ++ x := by
          intro x ex
          unfold rowR
          rw [ex]
          simp only [List.append_assoc]
        have hl0 : (pre ++ octsN 1 fs[i].name.length ++ fs[i].name ++ [fs[i].kind]).length < 1099511627776 := by simp [octsN_length]; omega
        generalize pre ++ octsN 1 fs[i].name.length ++ fs[i].name ++ [fs[i].kind] = pk at *
        by_cases k1 : fs[i].kind = 116
        · refine ifT (by simp [k1]) ⟨a, e, by omega, by omega, ?_⟩
          simp only [rdN (g 2 _ rfl), wrap_nat64]
          exact rputS (s := (p, l, c)) (n := 1) S' S'.sl hl0 (by omega) fun p2 l2 c2 h2 S2 => ⟨_, _, _, rfl, next _ _ _ h2 (by rw [er _ (by unfold valR; rw [if_pos k1])]; exact S2.d1)⟩
        refine ifF (by simp [k1]) ?_
        by_cases k2 : fs[i].kind = 73
        · refine ifT (by simp [k2]) ⟨a, e, by omega, by omega, ?_⟩
          simp only [rdN (g 2 _ rfl), wrap_nat64]
          exact rputS (s := (p, l, c)) (n := 4) S' S'.sl hl0 (by omega) fun p2 l2 c2 h2 S2 => ⟨_, _, _, rfl, next _ _ _ h2 (by rw [er _ (by unfold valR; rw [if_neg k1, if_pos k2])]; exact S2.d1)⟩
        refine ifF (by simp [k2]) ?_
        by_cases k3 : fs[i].kind = 108
        · refine ifT (by simp [k3]) ⟨a, e, by omega, by omega, ?_⟩
          simp only [rdN (g 2 _ rfl), wrap_nat64]
          exact rputS (s := (p, l, c)) (n := 8) S' S'.sl hl0 (by omega) fun p2 l2 c2 h2 S2 => ⟨_, _, _, rfl, next _ _ _ h2 (by rw [er _ (by unfold valR; rw [if_neg k1, if_neg k2, if_pos k3])]; exact S2.d1)⟩
        refine ifF (by simp [k3]) ?_
        by_cases k4 : fs[i].kind = 83
        · refine ifT (by simp [k4]) ⟨a, e, by omega, by omega, ?_⟩
          simp only [rdT (g 3 _ rfl)]
          refine St.bytes u_str u_sl u_u8 S' fun cc h2 S2 => ⟨_, _, _, rfl, ?_⟩
          refine rrlongS (s := (p, l, c)) (bs := pk) (t := (some (top h'), _, cc)) S2 S2.p1.sl S2.sl hl0 (by omega) fun p2 l2 c2 h2 S2 => ⟨_, _, _, rfl, next _ _ _ h2 ?_⟩
          rw [er _ (by unfold valR; rw [if_neg k1, if_neg k2, if_neg k3, if_pos k4]), ← List.append_assoc]
          exact S2.d1.d1
        refine ifF (by simp [k4]) ?_
        by_cases k5 : fs[i].kind = 70
        · refine ifT (by simp [k5]) ⟨a, e, by omega, by omega, ?_⟩
          simp only [rdS (g 4 _ rfl)]
          refine ih (B := B) (s := t) S1 (hok.2 k5) (by omega) fun p1 l1 c1 h2 S2 => ⟨_, _, _, rfl, ?_⟩
          refine rrlongS (s := (p, l, c)) (bs := pk) (t := (p1, l1, c1)) S2 S2.p2.sl S2.sl hl0 (by omega) fun p2 l2 c2 h2 S2 => ⟨_, _, _, rfl, next _ _ _ h2 ?_⟩
          rw [er _ (by unfold valR; rw [if_neg k1, if_neg k2, if_neg k3, if_neg k4, if_pos k5]), ← List.append_assoc]
          exact S2.d1.d1.d1
        · refine ifF (by simp [k5]) (next _ _ _ h' ?_)
          rw [er [] (by unfold valR; rw [if_neg k1, if_neg k2, if_neg k3, if_neg k4, if_neg k5]), List.append_nil]
          exact S'
      obtain ⟨a, t, e, r, g, S1⟩ := tbElem S (B := B) (s := s) hlt
      have SA := S.al (u8s [fs[i].kind]) T.uint8
      obtain ⟨a2, t2, e2, r2, g2, S2⟩ := tbElem SA (B := B) (s := s) hlt
      obtain rfl : a2 = a := by rw [e] at e2; cases e2; rfl
      have eA : al h #[.int .u8 (fs[i].kind.toNat : Int)] T.uint8 = al h (u8s [fs[i].kind]).toArray T.uint8 := rfl
      refine ⟨a2, e, by omega, by omega, a2, e, by omega, by omega, ?_⟩
      have hname := fieldOk_len hok.1
      have cA : CallsH P F.qbo [.slice o.1 o.2.1 o.2.2, .string (mkS fs[i].name)] (fun v h' => ∃ a l c, v = .slice a l c ∧ SemH P (Builtin.append_ #[T.sl_uint8, T.sl_uint8] T.sl_uint8 #[.slice a l c, .slice (some (top h)) 1 1]) (fun v h2 => ∃ a l c, v = .slice a l c ∧ qal.j3 K (qal.L1 K fuel) s.1 s.2.1 s.2.2 a l c i h2) h') (al h (u8s [fs[i].kind]).toArray T.uint8) := by
        refine rrshortS (s := o) SA SA.p1.sl (by omega) (by omega) fun p l c h2 S3 => ⟨_, _, _, rfl, ?_⟩
        have src : Src P 1 h2 (.slice (some (top h)) 1 1) 1 (u8s [fs[i].kind]) := Src.slice (n := 1) ⟨rfl, S3.p1.mem.1⟩ (u8s_one _)
        exact appS (s := (p, l, c)) S3 src (by simp [octsN_length]; omega) fun p2 l2 c2 h3 S4 => ⟨_, _, _, rfl, j3 _ _ _ h3 S4.d1.d1⟩
      have cB : CallsH P F.qbo [.slice o.1 o.2.1 o.2.2, .string (mkS fs[i].name)] (fun v h' => ∃ a l c, v = .slice a l c ∧ SemH P (Builtin.append_ #[T.sl_uint8, T.sl_uint8] T.sl_uint8 #[.slice a l c, .slice (some (top h')) 1 1]) (fun v h2 => ∃ a l c, v = .slice a l c ∧ qal.j3 K (qal.L1 K fuel) s.1 s.2.1 s.2.2 a l c i h2) (al h' #[.int .u8 (fs[i].kind.toNat : Int)] T.uint8)) h := by
        refine rrshortS (s := o) S S.sl (by omega) (by omega) fun p l c h2 S3 => ⟨_, _, _, rfl, ?_⟩
        exact app1S (o := (p, l, c)) S3 (by simp [octsN_length]; omega) fun p2 l2 c2 h3 S4 => ⟨_, _, _, rfl, j3 _ _ _ h3 S4.d1⟩
      have cC : CallsH P F.qbo [.slice o.1 o.2.1 o.2.2, .string (mkS fs[i].name)] (fun v h' => ∃ a l c, v = .slice a l c ∧ ∃ n, hcell h' (Addr.add (Addr.add a2 (i * 5)) 1) = some (.int .u8 n) ∧ SemH P (Builtin.append_ #[T.sl_uint8, T.sl_uint8] T.sl_uint8 #[.slice a l c, .slice (some (top h')) 1 1]) (fun v h2 => ∃ a l c, v = .slice a l c ∧ qal.j3 K (qal.L1 K fuel) s.1 s.2.1 s.2.2 a l c i h2) (al h' #[.int .u8 n] T.uint8)) h := by
        refine rrshortS (s := o) S S.sl (by omega) (by omega) fun p l c h2 S3 => ⟨_, _, _, rfl, ?_⟩
        obtain ⟨a3, t3, e3, r3, g3, _⟩ := tbElem S3 (B := B) (s := s) hlt
        obtain rfl : a3 = a2 := by rw [e] at e3; cases e3; rfl
        refine ⟨_, g3 1 _ rfl, ?_⟩
        exact app1S (o := (p, l, c)) S3 (by simp [octsN_length]; omega) fun p2 l2 c2 h3 S4 => ⟨_, _, _, rfl, j3 _ _ _ h3 S4.d1⟩
      simp only [Int.toNat_natCast, rdT (g 0 _ rfl), rdN (g 1 _ rfl), bd, eA, rdT (g2 0 _ rfl)]
      exact ⟨⟨cC, cB, cA⟩, ⟨cB, cA⟩, cA⟩
    · refine ifF (by simp; omega) (hK _ _ _ h ?_)
      rw [List.take_of_length_le (by omega)] at S
      exact S
end
theorem rrows_spec : ∀ d : Nat, d ≤ 8 → RRowsC d
  | 0, _ => by
    intro S _ hf hw hK
    cases hf
  | d + 1, hd => by
    intro S _ hf hw hK; rename_i K L h B s fs _
    have ih : RRowsC d := rrows_spec d (by omega)
    refine qal.ok ?_
    unfold qal.p0
    exact ⟨fs.length + 1, rrows_loop (B := B) ih hf hw hK _ 0 (none, 0, 0) h (by omega) (Nat.zero_le _) (S.owNil 1)⟩
theorem wgtGo_le {d : Nat} (ih : ∀ fs, wgtP d fs ≤ 16 * wtD d fs) : ∀ (fs : List PF) (n : Nat), wgtGo (wgtP d) fs n ≤ n + 16 * wtD (d + 1) fs
  | [], n => by simp [wgtGo]
  | f :: r, n => by
    unfold wgtGo
    split
    · have h1 := wgtGo_le ih r (n + 13 + f.name.length + min f.s.length 4000 + wgtP d f.t)
      have h2 := ih f.t
      have h3 : wtD (d + 1) (f :: r) = 1 + f.name.length + f.s.length + wtD d f.t + wtD (d + 1) r := by simp [wtD]
      omega
    · omega
theorem wgtP_le : ∀ (d : Nat) (fs : List PF), wgtP d fs ≤ 16 * wtD d fs
  | 0, _ => Nat.zero_le _
  | d + 1, fs => by
    have := wgtGo_le (wgtP_le d) fs 0
    show wgtGo (wgtP d) fs 0 ≤ _
    omega
def WgtC (d : Nat) : Prop := ∀ {K : KT} {L : List Asr} {h : Heap} {B : Nat → Prop} {s : SV} {fs : List PF} (S : St L h) [In (Tb B s) L fs] (hw : wtD d fs ≤ 67108864) (hK : ∀ h', St L h' → K (.int .i64 (wgtP d fs : Nat)) h'),
  CallsH P F.qai [.slice s.1 s.2.1 s.2.2, .int .i64 (9 - (d : Int))] K h
section
variable {K : KT} {L R : List Asr} {h : Heap}
theorem weight_loop {d : Nat} (ih : WgtC d) (hd : d ≤ 8) {B : Nat → Prop} {s : SV} {fs : List PF} {res : Nat} (hw : wtD (d + 1) fs ≤ 67108864) [In (Tb B s) L fs] (hK : ∀ h', St L h' → K (.int .i64 (res : Nat)) h') :
    ∀ (fuel i n : Nat) (h : Heap), fs.length - i < fuel → i ≤ fs.length → n ≤ 2147483648 → wgtGo (wgtP d) (fs.drop i) n = res → St L h → qai.L1 K fuel s.1 s.2.1 s.2.2 (8 - (d : Int)) n i h
  | 0, _, _, _, hf, _, _, _, _ => absurd hf (Nat.not_lt_zero _)
  | fuel + 1, i, n, h, hf, hi, hn, hg, S => by
    have lt := tbLen S (B := B) (s := s)
    have hl := wtD_len (d := d) (fs := fs)
    unfold qai.L1
    have stop : wgtGo (wgtP d) (fs.drop i) n = n → qai.j2 K (qai.L1 K fuel) s.1 s.2.1 s.2.2 (8 - (d : Int)) n i false h := by
      intro e
      unfold qai.j2
      refine ifF rfl ?_
      rw [e] at hg
      subst hg
      exact hK h S
    by_cases hlt : i < fs.length
    · refine ifT (by simp; omega) ?_
      have hdrop : fs.drop i = fs[i] :: fs.drop (i + 1) := List.drop_eq_getElem_cons hlt
      rw [hdrop] at hg stop
      unfold wgtGo at hg stop
      by_cases h2 : n ≤ 2000
      · rw [if_pos h2] at hg
        refine ifT (by simp; omega) ?_
        rw [decide_eq_true (by omega)]
        have hp := wtD_part (d := d) (List.getElem_mem hlt)
        have hwl := wgtP_le d fs[i].t
        have next : ∀ h', St L h' → qai.j3 K (qai.L1 K fuel) s.1 s.2.1 s.2.2 (8 - (d : Int)) ((n + 13 + fs[i].name.length + min fs[i].s.length 4000 + wgtP d fs[i].t : Nat) : Int) i h' := by
          intro h' S'
          unfold qai.j3
          simp only [bd]
          rw [wsucc (by omega)]
          exact weight_loop (B := B) ih hd hw hK fuel (i + 1) _ h' (by omega) (by omega) (by omega) hg S'
        have ew : IntKind.i64.wrap ((IntKind.i64.wrap ((IntKind.i64.wrap ((IntKind.i64.wrap ((n : Int) + 13)) + ((List.length fs[i].name : Nat) : Int))) + (if (4000 : Int) < ((List.length fs[i].s : Nat) : Int) then 4000 else ((List.length fs[i].s : Nat) : Int)))) + ((wgtP d fs[i].t : Nat) : Int)) = ((n + 13 + fs[i].name.length + min fs[i].s.length 4000 + wgtP d fs[i].t : Nat) : Int) := by
          rw [wrapI (n := (n : Int) + 13) (by omega) (by omega), wrapI (n := (n : Int) + 13 + _) (by omega) (by omega)]
          have : (if (4000 : Int) < ((List.length fs[i].s : Nat) : Int) then 4000 else ((List.length fs[i].s : Nat) : Int)) = ((min fs[i].s.length 4000 : Nat) : Int) := by split <;> omega
          rw [this, wrapI (n := (n : Int) + 13 + _ + _) (by omega) (by omega), wrapI (by omega) (by omega)]
          omega
        obtain ⟨a, t, e, r, g, S1⟩ := tbElem S (B := B) (s := s) hlt
        unfold qai.j2
        refine ifT rfl ⟨a, e, by omega, by omega, a, e, by omega, by omega, a, e, by omega, by omega, ?_⟩
        have ed : IntKind.i64.wrap ((8 : Int) - (d : Int) + 1) = 9 - (d : Int) := by rw [wrapI (by omega) (by omega)]; omega
        simp only [Int.toNat_natCast, rdT (g 0 _ rfl), rdT (g 3 _ rfl), rdS (g 4 _ rfl), ed]
        repeat' (with_reducible refine And.intro ?_ ?_)
        all_goals
          refine ih (B := B) (s := t) S1 (by omega) fun h2 S2 => ⟨_, rfl, ?_⟩
          obtain ⟨a3, t3, e3, r3, g3, _⟩ := tbElem S2.tl (B := B) (s := s) hlt
          obtain rfl : a3 = a := by rw [e] at e3; cases e3; rfl
          try simp only [rdT (g3 0 _ rfl), rdT (g3 3 _ rfl)]
          simp only [bd, ew]
          try simp only [and_self]
          exact next h2 S2.tl
      · rw [if_neg h2] at stop
        exact ifF (by simp; omega) (stop rfl)
    · refine ifF (by simp; omega) (stop ?_)
      rw [List.drop_eq_nil_of_le (by omega)]
      rfl
end
theorem weight_spec : ∀ d : Nat, d ≤ 9 → WgtC d
  | 0, _ => by
    intro S _ hw hK; rename_i K L h B s fs _ _
    refine qai.ok ?_
    unfold qai.p0
    refine ⟨1, ?_⟩
    unfold qai.L1
    have stop : qai.j2 K (qai.L1 K 0) s.1 s.2.1 s.2.2 9 0 0 false h := by
      unfold qai.j2
      exact ifF rfl (hK h S)
    exact ⟨fun _ => ifT (by decide) stop, fun _ => stop⟩
  | d + 1, hd => by
    intro S _ hw hK; rename_i K L h B s fs _
    have ih : WgtC d := weight_spec d (by omega)
    refine qai.ok ?_
    unfold qai.p0
    have e : (9 : Int) - ((d + 1 : Nat) : Int) = 8 - (d : Int) := by omega
    rw [e]
    exact ⟨fs.length + 1, weight_loop (B := B) ih (by omega) hw hK _ 0 0 h (by omega) (Nat.zero_le _) (by omega) rfl S⟩
section
variable {K : KT} {L R : List Asr} {h : Heap}
theorem rtokS {B : Nat → Prop} {s : SV} {fs : List PF} (S : St L h) [In (Tb B s) L fs] (hw : wtD 8 fs ≤ 67108864) (hK : ∀ h', St L h' → K (.bool (tableOkP fs)) h') : CallsH P F.qbk [.slice s.1 s.2.1 s.2.2] K h := by
  refine qbk.ok ?_
  unfold qbk.p0
  rw [tableOk_wgt] at hK
  refine formed_spec 8 (by omega) (B := B) S (by omega) fun h1 S1 => ⟨_, rfl, fun e => ?_, fun e => ?_⟩
  · rw [e, Bool.true_and] at hK
    refine weight_spec 8 (by omega) (B := B) S1 (by omega) fun h2 S2 => ⟨_, rfl, ?_⟩
    by_cases hw2 : wgtP 8 fs ≤ 1900
    · rw [decide_eq_true hw2, Bool.true_or] at hK
      exact ifT' (by simp; omega) (hK h2 S2)
    · refine ifF' (by simp; omega) (rrows_spec 8 (by omega) (B := B) S2 e (by omega) fun p l c h3 S3 => ⟨_, _, _, rfl, ?_⟩)
      have ll : l = (rowsR 8 fs).length := by have := Sl.len S3.sl; simpa using this
      simp only [bd]
      rw [show decide (((l : Nat) : Int) ≤ 2000) = decide ((rowsR 8 fs).length ≤ 2000) by rw [ll]; congr 1; rw [eq_iff_iff]; omega]
      rw [decide_eq_false hw2, Bool.false_or] at hK
      exact hK h3 S3.tl
  · rw [e, Bool.false_and] at hK
    exact hK h1 S1
theorem rrowsS {B : Nat → Prop} {s : SV} {fs : List PF} (S : St L h) [In (Tb B s) L fs] (hf : formedP 8 fs = true) (hw : wtD 8 fs ≤ 67108864) (hK : ∀ p l c h', St (Ow 1 (p, l, c) (u8s (rowsR 8 fs)) :: L) h' → K (.slice p l c) h') : CallsH P F.qal [.slice s.1 s.2.1 s.2.2] K h :=
  rrows_spec 8 (by omega) (B := B) S hf hw hK
end
end Go.Proofs.Ytjkiaeccjelklaa.Pr
end
section
set_option linter.unusedVariables false
set_option linter.unusedSimpArgs false
namespace Go.Proofs.Ytjkiaeccjelklaa.Pr
open Go Go.Lift Go.Proofs
section
variable {K : KT} {L R : List Asr} {h : Heap}
theorem tbRead {B : Nat → Prop} {s : SV} {fs : List PF} {i : Nat} (S : St L h) [In (Tb B s) L fs] (hi : i < fs.length) {p : Addr} (e : s.1 = some p) {F : List Value → Prop} (hF : ∀ t : SV, St (Tb B t fs[i].t :: L) h → F (fcells (fs[i], t))) :
    ∃ cs, rdC h (Addr.add p (Int.toNat (i : Int) * 5)) 0 5 = some cs ∧ F cs := by
  obtain ⟨a, t, e1, r, _, S1⟩ := tbElem S (B := B) (s := s) hi
  rw [e] at e1; cases e1
  exact ⟨_, r, hF t S1⟩
theorem St.bd1' {t : TypeId} (S : St L h) (cs : List Value) {F : Heap → Prop} (hK : St (Bx (top h) cs :: L) (Lift.al h (List.toArray cs) t) → F (Lift.al h (List.toArray cs) t)) : bd (Lift.al h (List.toArray cs) t) F := hK (S.al cs t)
theorem fcells_one (x : PF × SV) : ∀ w ∈ fcells x, one w = true := by simp [fcells, one, SV.v]
abbrev fz : List Value := [.string (mkS ([] : List UInt8)), .int .u8 0, .int .i64 0, .string (mkS ([] : List UInt8)), .slice none 0 0]
theorem pf_ext {f g : PF} (h1 : f.name = g.name) (h2 : f.kind = g.kind) (h3 : f.n = g.n) (h4 : f.s = g.s) (h5 : f.t = g.t) : f = g := by
  rw [← field_eta f, ← field_eta g, h1, h2, h3, h4, h5]
theorem pf_size {f : PF} {fs : List PF} (h : f ∈ fs) : SizeOf.sizeOf f.t < SizeOf.sizeOf fs := by
  have h1 := List.sizeOf_lt_of_mem h
  have : SizeOf.sizeOf f.t < SizeOf.sizeOf f := by cases f; simp [PF.t]; omega
  omega
theorem take_eq_stepC {α : Type} {l m : List α} (hl : l.length = m.length) {i : Nat} (h1 : i < l.length) (h2 : i < m.length) (ht : l.take i = m.take i) : (l[i] = m[i] ↔ l.take (i + 1) = m.take (i + 1)) := by
  have e1 := List.take_succ_eq_append_getElem h1
  have e2 := List.take_succ_eq_append_getElem h2
  rw [e1, e2, ht]
  exact ⟨fun e => by rw [e], fun e => (List.cons.inj (List.append_cancel_left e)).1⟩
def SameC (n : Nat) : Prop := ∀ {K : KT} {L : List Asr} {h : Heap} {Bf Bg : Nat → Prop} {t u : SV} {fs gs : List PF} (S : St L h) [In (Tb Bf t) L fs] [In (Tb Bg u) L gs], SizeOf.sizeOf fs < n → (∀ e, wtD e fs ≤ 67108864) →
  (∀ h' (b : Bool), (b = true ↔ fs = gs) → St L h' → K (.bool b) h') → CallsH P F.qac [.slice t.1 t.2.1 t.2.2, .slice u.1 u.2.1 u.2.2] K h
theorem same_loop {n : Nat} (ih : SameC n) {Bf Bg : Nat → Prop} {t u : SV} {fs gs : List PF} [In (Tb Bf t) L fs] [In (Tb Bg u) L gs] (hn : SizeOf.sizeOf fs < n + 1) (hw : ∀ e, wtD e fs ≤ 67108864) (hlen : fs.length = gs.length)
    (hK : ∀ h' (b : Bool), (b = true ↔ fs = gs) → St L h' → K (.bool b) h') :
    ∀ (fuel i : Nat) (h : Heap), fs.length - i < fuel → i ≤ fs.length → fs.take i = gs.take i → St L h → qac.L1 K fuel t.1 t.2.1 t.2.2 u.1 u.2.1 u.2.2 i h
  | 0, _, _, hfu, _, _, _ => absurd hfu (Nat.not_lt_zero _)
  | fuel + 1, i, h, hfu, hi, ht, S => by
    have lt := tbLen S (B := Bf) (s := t)
    have lu := tbLen S (B := Bg) (s := u)
    have hl : fs.length ≤ 67108864 := Nat.le_trans (wtD_len (d := 0)) (hw 1)
    unfold qac.L1
    by_cases hlt : i < fs.length
    · have hm : i < gs.length := by omega
      refine ifT (by simp; omega) ?_
      obtain ⟨pa, ta, ea, _⟩ := tbElem S (B := Bf) (s := t) hlt
      obtain ⟨pb, tb, eb, _⟩ := tbElem S (B := Bg) (s := u) hm
      refine ⟨pa, ea, by omega, by omega, pb, eb, by omega, by omega, ?_⟩
      have step := take_eq_stepC hlen hlt hm ht
      have no : ∀ h', St L h' → fs[i] ≠ gs[i] → qac.j3 K (qac.L1 K fuel) t.1 t.2.1 t.2.2 u.1 u.2.1 u.2.2 i true h' := by
        intro h' S' e
        unfold qac.j3
        exact ifT rfl (hK h' false ⟨fun e => (by cases e), fun e2 => by subst e2; exact absurd rfl e⟩ S')
      have fin : ∀ {x y : Addr} {tf tg : SV} {h' : Heap}, St (Bx y (fcells (gs[i], tg)) :: Bx x (fcells (fs[i], tf)) :: Tb Bg tg gs[i].t :: Tb Bf tf fs[i].t :: L) h' →
          qac.j2 K (qac.L1 K fuel) t.1 t.2.1 t.2.2 u.1 u.2.1 u.2.2 i x y h' := by
        intro x y tf tg h' S
        unfold qac.j2
        simp only [rdT (S.rc x 0 rfl), rdT (S.rc y 0 rfl), rdN (S.rc x 1 rfl), rdN (S.rc y 1 rfl), rdN (S.rc x 2 rfl), rdN (S.rc y 2 rfl), rdT (S.rc x 3 rfl), rdT (S.rc y 3 rfl), rdS (S.rc x 4 rfl), rdS (S.rc y 4 rfl)]
        by_cases e1 : fs[i].name = gs[i].name
        case neg => exact ifT' (by simpa using e1) (no h' S.to fun e => e1 (by rw [e]))
        refine ifF' (by simpa using e1) ?_
        by_cases e2 : fs[i].kind = gs[i].kind
        case neg => exact ifT' (by simp only [bne_iff_ne, ne_eq]; intro e; exact e2 (UInt8.toNat_inj.1 (by omega))) (no h' S.to fun e => e2 (by rw [e]))
        refine ifF' (by rw [e2]; simp) ?_
        by_cases e3 : fs[i].n = gs[i].n
        case neg => exact ifT' (by simpa using e3) (no h' S.to fun e => e3 (by rw [e]))
        refine ifF' (by simpa using e3) ?_
        by_cases e4 : fs[i].s = gs[i].s
        case neg => exact ifT' (by simpa using e4) (no h' S.to fun e => e4 (by rw [e]))
        refine ifF' (by simpa using e4) ?_
        have hmem : fs[i] ∈ fs := List.getElem_mem hlt
        have hsz := pf_size hmem
        refine ih (Bf := Bf) (Bg := Bg) (t := tf) (u := tg) (fs := fs[i].t) (gs := gs[i].t) S (by omega) (fun e => by have := wtD_part (d := e) hmem; have := hw (e + 1); omega) fun h2 b hb S2 => ⟨_, rfl, ?_⟩
        cases b with
        | false => exact no h2 S2.to fun e => by have := hb.2 (by rw [e]); cases this
        | true =>
          have e5 := hb.1 rfl
          unfold qac.j3
          refine ifF rfl ?_
          simp only [bd]
          rw [wsucc (by omega)]
          exact same_loop (Bf := Bf) (Bg := Bg) ih hn hw hlen hK fuel (i + 1) h2 (by omega) (by omega) (step.1 (pf_ext e1 e2 e3 e4 e5)) S2.to
      have finB : ∀ {x y : Addr} {tf tg : SV} {h' : Heap}, St (Bx y (fcells (gs[i], tg)) :: Bx x (fcells (fs[i], tf)) :: Tb Bf tf fs[i].t :: Tb Bg tg gs[i].t :: L) h' → qac.j2 K (qac.L1 K fuel) t.1 t.2.1 t.2.2 u.1 u.2.1 u.2.2 i x y h' := fun {x y tf tg h'} S => fin (x := x) (y := y) (tf := tf) (tg := tg) (h' := h') S.to
      have finC : ∀ {x y : Addr} {tf tg : SV} {h' : Heap}, St (Bx y (fcells (gs[i], tg)) :: Tb Bg tg gs[i].t :: Bx x (fcells (fs[i], tf)) :: Tb Bf tf fs[i].t :: L) h' → qac.j2 K (qac.L1 K fuel) t.1 t.2.1 t.2.2 u.1 u.2.1 u.2.2 i x y h' := fun {x y tf tg h'} S => fin (x := x) (y := y) (tf := tf) (tg := tg) (h' := h') S.to
      repeat' first
        | with_reducible refine And.intro (fcells_len _) ?_
        | with_reducible refine And.intro ?_ ?_
        | with_reducible refine St.bd1' S fz fun S => ?_
        | with_reducible refine tbRead (B := Bf) (s := t) S hlt ea fun _ S => ?_
        | with_reducible refine tbRead (B := Bg) (s := u) S hm eb fun _ S => ?_
        | with_reducible refine St.putA S _ (by simp [fcells]) (fcells_one _) fun _ S => ?_
      all_goals first
        | exact fin S
        | exact finB S
        | exact finC S
    · refine ifF (by simp; omega) ?_
      rw [List.take_of_length_le (by omega), List.take_of_length_le (by omega)] at ht
      exact hK h true ⟨fun _ => ht, fun _ => rfl⟩ S
theorem same_spec : ∀ n : Nat, SameC n
  | 0 => by intro S _ _ h0; exact absurd h0 (Nat.not_lt_zero _)
  | n + 1 => by
    intro S _ _ hn hw hK; rename_i K L h Bf Bg t u fs gs _ _
    have ih : SameC n := same_spec n
    have lt := tbLen S (B := Bf) (s := t)
    have lu := tbLen S (B := Bg) (s := u)
    refine qac.ok ?_
    unfold qac.p0
    by_cases hl : fs.length = gs.length
    · refine ifF (by simp; omega) ⟨fs.length + 1, ?_⟩
      exact same_loop (Bf := Bf) (Bg := Bg) ih hn hw hl hK _ 0 h (by omega) (by omega) rfl S
    · exact ifT (by simp; omega) (hK h false ⟨fun e => (by cases e), fun e => by subst e; exact absurd rfl hl⟩ S)
theorem sameTabS {Bf Bg : Nat → Prop} {t u : SV} {fs gs : List PF} (S : St L h) [In (Tb Bf t) L fs] [In (Tb Bg u) L gs] (hw : ∀ e, wtD e fs ≤ 67108864) (hK : ∀ h' (b : Bool), (b = true ↔ fs = gs) → St L h' → K (.bool b) h') :
    CallsH P F.qac [.slice t.1 t.2.1 t.2.2, .slice u.1 u.2.1 u.2.2] K h := same_spec (SizeOf.sizeOf fs + 1) (Bf := Bf) (Bg := Bg) S (by omega) hw hK
end
end Go.Proofs.Ytjkiaeccjelklaa.Pr
end
section
set_option linter.unusedVariables false
set_option linter.unusedSimpArgs false
namespace Go.Proofs.Ytjkiaeccjelklaa.Pr
open Go Go.Lift Go.Proofs
def gN (n : List Nat) : Oct → Nat → List Nat
  | [], _ => []
  | c :: r, i => if c = 115 ∨ c = 108 ∨ c = 116 ∨ c = 102 then gN n r i else n.getD i 0 % 256 ^ (c.toNat - 48) :: gN n r (i + 1)
def gS (s : List Oct) : Oct → Nat → List Oct
  | [], _ => []
  | c :: r, i => if c = 115 ∨ c = 108 then (s.getD i []).take 255 :: gS s r (i + 1) else gS s r i
def gF (f : Int) : Oct → Nat → List Bool
  | [], _ => []
  | c :: r, i => if c = 102 then gbit f i :: gF f r (i + 1) else gF f r i
theorem made_from {n : List Nat} {s : List Oct} {f : Int} {t : List PF} {tok : Bool} : ∀ (g : Oct) (x : PM), (g.foldl (madeOne n s f t tok) x).N = x.N ++ gN n g x.N.length ∧ (g.foldl (madeOne n s f t tok) x).S = x.S ++ gS s g x.S.length ∧ (g.foldl (madeOne n s f t tok) x).F = x.F ++ gF f g x.F.length
  | [], x => by simp [gN, gS, gF]
  | c :: r, x => by
    have ih := made_from (n := n) (s := s) (f := f) (t := t) (tok := tok) r (madeOne n s f t tok x c)
    rw [List.foldl_cons]
    unfold gN gS gF
    by_cases h1 : c = 115 ∨ c = 108
    · have h2 : c = 115 ∨ c = 108 ∨ c = 116 ∨ c = 102 := by rcases h1 with e | e <;> simp [e]
      have h3 : c ≠ 102 := by rcases h1 with e | e <;> (rw [e]; decide)
      rw [if_pos h1, if_pos h2, if_neg h3]
      have e : madeOne n s f t tok x c = { x with S := x.S ++ [(s.getD x.S.length []).take 255] } := by unfold madeOne; rw [if_pos h1]
      rw [e] at ih ⊢
      refine ⟨ih.1, ?_, ih.2.2⟩
      rw [ih.2.1]; simp
    · rw [if_neg h1]
      by_cases h3 : c = 116
      · have e : (madeOne n s f t tok x c).N = x.N ∧ (madeOne n s f t tok x c).S = x.S ∧ (madeOne n s f t tok x c).F = x.F := by
          unfold madeOne; rw [if_neg h1, if_pos h3]; split <;> exact ⟨rfl, rfl, rfl⟩
        rw [e.1, e.2.1, e.2.2] at ih
        rw [if_pos (.inr (.inr (.inl h3))), if_neg (by rw [h3]; decide)]
        exact ih
      · by_cases h4 : c = 102
        · have e : madeOne n s f t tok x c = { x with F := x.F ++ [gbit f x.F.length] } := by unfold madeOne; rw [if_neg h1, if_neg h3, if_pos h4]
          rw [if_pos (.inr (.inr (.inr h4))), if_pos h4]
          rw [e] at ih ⊢
          refine ⟨ih.1, ih.2.1, ?_⟩
          rw [ih.2.2]; simp
        · have e : madeOne n s f t tok x c = { x with N := x.N ++ [n.getD x.N.length 0 % 256 ^ (c.toNat - 48)] } := by unfold madeOne; rw [if_neg h1, if_neg h3, if_neg h4]
          rw [if_neg (fun a => a.elim (fun a => h1 (.inl a)) fun a => a.elim (fun a => h1 (.inr a)) fun a => a.elim h3 h4), if_neg h4]
          rw [e] at ih ⊢
          refine ⟨?_, ih.2.1, ih.2.2⟩
          rw [ih.1]; simp
theorem g_flags (n : List Nat) (s : List Oct) (f : Int) : ∀ (g : Oct) (i j l : Nat), gN n (g.drop (flagsP g)) i = gN n g i ∧ gS s (g.drop (flagsP g)) j = gS s g j ∧ ∃ a, a.length = flagsP g ∧ gF f g l = a ++ gF f (g.drop (flagsP g)) (l + flagsP g)
  | [], i, j, l => ⟨rfl, rfl, [], rfl, rfl⟩
  | c :: r, i, j, l => by
    unfold flagsP
    by_cases h : c = 102
    · rw [if_pos h, List.drop_succ_cons]
      obtain ⟨h1, h2, a, h3, h4⟩ := g_flags n s f r i j (l + 1)
      refine ⟨?_, ?_, gbit f l :: a, by simp [h3], ?_⟩
      · rw [h1]; conv => rhs; unfold gN
        rw [if_pos (.inr (.inr (.inr h)))]
      · rw [h2]; conv => rhs; unfold gS
        rw [if_neg (by rw [h]; decide)]
      · conv => lhs; unfold gF
        rw [if_pos h, h4, show l + (flagsP r + 1) = l + 1 + flagsP r by omega]; rfl
    · rw [if_neg h]
      exact ⟨rfl, rfl, [], rfl, rfl⟩
theorem made_write {n : List Nat} {s : List Oct} {f : Int} {T0 : List PF} (hT : (tableP T0).isSome = true) : ∀ (k : Nat) (g o : Oct) (i j l : Nat), g.length < k → (∀ c ∈ g, letterD c) → g.count 116 ≤ 1 →
    ∃ o', formW k g (o, ⟨gN n g i, gS s g j, gF f g l, if 0 < g.count 116 then T0 else []⟩) = some (o', ⟨[], [], [], []⟩)
  | 0, _, _, _, _, _, h, _, _ => absurd h (Nat.not_lt_zero _)
  | k + 1, g, o, i, j, l, hk, hg, hc => by
    unfold formW
    by_cases g0 : g = []
    · subst g0
      exact ⟨o, by rw [if_pos rfl]; rfl⟩
    rw [if_neg g0]
    by_cases hf : 0 < flagsP g
    · rw [if_pos hf]
      obtain ⟨h1, h2, a, h3, h4⟩ := g_flags n s f g i j l
      unfold packW
      simp only
      have la : a.length ≤ (gF f g l).length := by rw [h4]; simp
      rw [if_neg (by omega), Option.bind_some]
      have hd := flagsP_le g
      obtain ⟨o', e⟩ := made_write hT k (g.drop (flagsP g)) (packGo ((gF f g l).take (flagsP g)) 0 o) i j (l + flagsP g) (by rw [List.length_drop]; omega) (fun c hc => hg c (List.mem_of_mem_drop hc)) (by rw [flagsP_count]; exact hc)
      refine ⟨o', ?_⟩
      rw [← e, h1, h2, flagsP_count]
      rw [show (gF f g l).drop (flagsP g) = gF f (g.drop (flagsP g)) (l + flagsP g) by rw [h4, ← h3, List.drop_left]]
    · rw [if_neg hf]
      obtain ⟨c, r, rfl⟩ := List.exists_cons_of_ne_nil g0
      have hcl := hg c (List.mem_cons_self ..)
      have hc102 : c ≠ 102 := by
        intro e
        apply hf
        unfold flagsP
        rw [if_pos e]; omega
      have e0 : (c :: r).getD 0 0 = c := rfl
      have dr : (c :: r).drop 1 = r := rfl
      rw [e0, dr]
      have cr : r.count 116 ≤ 1 := Nat.le_trans (List.count_le_count_cons ..) hc
      have cnt : c ≠ 116 → (c :: r).count 116 = r.count 116 := fun e => by rw [List.count_cons, if_neg (by simpa using e), Nat.add_zero]
      have sub := fun (o1 : Oct) (i1 j1 l1 : Nat) => made_write (n := n) (s := s) (f := f) hT k r o1 i1 j1 l1 (by simp at hk; omega) (fun c hc => hg c (List.mem_cons_of_mem _ hc)) cr
      have hF : gF f (c :: r) l = gF f r l := by
        conv => lhs; unfold gF
        rw [if_neg hc102]
      rw [hF]
      unfold oneW
      simp only
      by_cases h115 : c = 115
      · have eS : gS s (c :: r) j = (s.getD j []).take 255 :: gS s r (j + 1) := by
          conv => lhs; unfold gS
          rw [if_pos (.inl h115)]
        have eN : gN n (c :: r) i = gN n r i := by
          conv => lhs; unfold gN
          rw [if_pos (.inl h115)]
        rw [if_pos h115, eS, eN, cnt (by rw [h115]; decide)]
        simp only
        rw [if_neg (by simp; omega), Option.bind_some]
        exact sub _ _ _ _
      rw [if_neg h115]
      by_cases h108 : c = 108
      · have eS : gS s (c :: r) j = (s.getD j []).take 255 :: gS s r (j + 1) := by
          conv => lhs; unfold gS
          rw [if_pos (.inr h108)]
        have eN : gN n (c :: r) i = gN n r i := by
          conv => lhs; unfold gN
          rw [if_pos (.inr (.inl h108))]
        rw [if_pos h108, eS, eN, cnt (by rw [h108]; decide)]
        simp only [Option.bind_some]
        exact sub _ _ _ _
      rw [if_neg h108]
      have eS : gS s (c :: r) j = gS s r j := by
        conv => lhs; unfold gS
        rw [if_neg (fun a => a.elim h115 h108)]
      rw [eS]
      by_cases h116 : c = 116
      · have eN : gN n (c :: r) i = gN n r i := by
          conv => lhs; unfold gN
          rw [if_pos (.inr (.inr (.inl h116)))]
        have c0 : r.count 116 = 0 := by rw [h116, List.count_cons_self] at hc; omega
        have c1 : 0 < (c :: r).count 116 := by rw [h116, List.count_cons_self]; omega
        rw [if_pos h116, eN, if_pos c1]
        obtain ⟨b, hb⟩ := Option.isSome_iff_exists.1 hT
        simp only [hb, Option.bind_some]
        have := sub (o ++ octsN 4 b.length ++ b) i j l
        rw [c0] at this
        exact this
      · rw [if_neg h116, cnt h116]
        have eN : gN n (c :: r) i = n.getD i 0 % 256 ^ (c.toNat - 48) :: gN n r (i + 1) := by
          conv => lhs; unfold gN
          rw [if_neg (fun a => a.elim h115 fun a => a.elim h108 fun a => a.elim h116 hc102)]
        rw [eN]
        simp only
        have hp : 0 < 256 ^ (c.toNat - 48) := Nat.pow_pos (by decide)
        rw [if_pos (.inr (Nat.div_eq_of_lt (Nat.mod_lt _ hp))), Option.bind_some]
        exact sub _ _ _ _
theorem cnt_isT (g : Oct) : g.countP isT = g.count 116 := by
  unfold List.count
  congr 1
theorem made_ok {a : Int} {n : List Nat} {s : List Oct} {f : Int} {t : List PF} : (methW (madeC a).1.1 (madeC a).1.2 (madeF n s f t (tableOkP t) (madeC a).2)).isSome = true ∧ ((madeF n s f t (tableOkP t) (madeC a).2).T = t ∨ (madeF n s f t (tableOkP t) (madeC a).2).T = []) := by
  have hf := madeC_form a
  have nf := formP_nice hf
  have mem := madeC_mem a
  have one := forms_one _ mem
  generalize madeC a = C at *
  obtain ⟨⟨ca, cb⟩, form⟩ := C
  simp only at *
  have e := made_from (n := n) (s := s) (f := f) (t := t) (tok := tableOkP t) form noM
  have eT := madeF_T n s f t (tableOkP t) form
  rw [cnt_isT] at eT
  have hT0 : (tableP (if tableOkP t = true then t else [])).isSome = true := by
    by_cases ok : tableOkP t = true
    · rw [if_pos ok, tableOk_isSome]; exact ok
    · rw [if_neg ok]; decide +kernel
  have ex : madeF n s f t (tableOkP t) form = ⟨gN n form 0, gS s form 0, gF f form 0, if 0 < form.count 116 then (if tableOkP t = true then t else []) else []⟩ := by
    have e1 : (madeF n s f t (tableOkP t) form).N = gN n form 0 := by have := e.1; simpa [noM, madeF] using this
    have e2 : (madeF n s f t (tableOkP t) form).S = gS s form 0 := by have := e.2.1; simpa [noM, madeF] using this
    have e3 : (madeF n s f t (tableOkP t) form).F = gF f form 0 := by have := e.2.2; simpa [noM, madeF] using this
    have e4 : (madeF n s f t (tableOkP t) form).T = if 0 < form.count 116 then (if tableOkP t = true then t else []) else [] := by
      rw [eT]
      by_cases c : 0 < form.count 116
      · by_cases ok : tableOkP t = true
        · rw [if_pos ⟨ok, c⟩, if_pos c, if_pos ok]
        · rw [if_neg (fun x => ok x.1), if_pos c, if_neg ok]
      · rw [if_neg (fun x => c x.2), if_neg c]
    rw [← e1, ← e2, ← e3, ← e4]
  refine ⟨?_, ?_⟩
  · unfold methW
    rw [hf, ex]
    simp only
    obtain ⟨o', e⟩ := made_write (n := n) (s := s) (f := f) hT0 (form.length + 1) form (octsN 2 (nat64 ca) ++ octsN 2 (nat64 cb)) 0 0 0 (by omega) nf.1 one
    rw [e]
    simp
  · rw [eT]
    by_cases c : tableOkP t = true ∧ 0 < form.count 116
    · rw [if_pos c]; exact .inl rfl
    · rw [if_neg c]; exact .inr rfl
end Go.Proofs.Ytjkiaeccjelklaa.Pr
end
section
set_option linter.unusedVariables false
set_option linter.unusedSimpArgs false
namespace Go.Proofs.Ytjkiaeccjelklaa.Pr
open Go Go.Lift Go.Proofs
def smallT : Nat → List PF → Bool
  | 0, _ => false
  | k + 1, fs => decide (fs.length ≤ 30) && fs.all fun f => decide (f.name.length ≤ 300) && decide (f.s.length ≤ 3000) && smallT k f.t
theorem smallT_P : ∀ (k : Nat) (fs : List PF), smallT k fs = true → ∀ e, smallP e fs
  | 0, _, h, _ => by cases h
  | k + 1, fs, h, e => by
    unfold smallT at h
    simp only [Bool.and_eq_true, decide_eq_true_eq, List.all_eq_true] at h
    cases e with
    | zero => trivial
    | succ e => exact fun f hf => ⟨by have := (h.2 f hf).1.1; omega, by have := (h.2 f hf).1.2; omega, smallT_P k f.t (h.2 f hf).2 e⟩
theorem smallT_len {k : Nat} {fs : List PF} (h : smallT k fs = true) : fs.length ≤ 30 := by
  cases k with
  | zero => cases h
  | succ k =>
    unfold smallT at h
    simp only [Bool.and_eq_true, decide_eq_true_eq] at h
    exact h.1
def SmallC (k : Nat) : Prop := ∀ {K : KT} {L : List Asr} {h : Heap} {B : Nat → Prop} {t : SV} {fs : List PF} (S : St L h) [In (Tb B t) L fs], (∀ h', St L h' → K (.bool (smallT k fs)) h') →
  CallsH P F.qao [.slice t.1 t.2.1 t.2.2, .int .i64 (13 - (k : Int))] K h
section
variable {K : KT} {L R : List Asr} {h : Heap}
theorem all_take {α : Type} {p : α → Bool} {l : List α} {i : Nat} (hi : i < l.length) (ht : (l.take i).all p = true) : (l.take (i + 1)).all p = p l[i] := by
  rw [List.take_succ_eq_append_getElem hi, List.all_append, ht]; simp
theorem all_false {α : Type} {p : α → Bool} {l : List α} {i : Nat} (hi : i < l.length) (h : p l[i] = false) : l.all p = false := by
  rw [List.all_eq_false]; exact ⟨l[i], List.getElem_mem hi, by rw [h]; decide⟩
theorem small_loop {k : Nat} (ih : SmallC k) (hk : k < 12) {B : Nat → Prop} {t : SV} {fs : List PF} [In (Tb B t) L fs] (h30 : fs.length ≤ 30) (hK : ∀ h', St L h' → K (.bool (smallT (k + 1) fs)) h') :
    ∀ (fuel i : Nat) (h : Heap), fs.length - i < fuel → i ≤ fs.length → (fs.take i).all (fun f => decide (f.name.length ≤ 300) && decide (f.s.length ≤ 3000) && smallT k f.t) = true → St L h → qao.L2 K fuel t.1 t.2.1 t.2.2 (12 - (k : Int)) i h
  | 0, _, _, hfu, _, _, _ => absurd hfu (Nat.not_lt_zero _)
  | fuel + 1, i, h, hfu, hi, ht, S => by
    have lt := tbLen S (B := B) (s := t)
    have ek : smallT (k + 1) fs = fs.all fun f => decide (f.name.length ≤ 300) && decide (f.s.length ≤ 3000) && smallT k f.t := by
      show (decide (fs.length ≤ 30) && _) = _
      rw [decide_eq_true h30, Bool.true_and]
    unfold qao.L2
    by_cases hlt : i < fs.length
    · refine ifT (by simp; omega) ?_
      obtain ⟨pa, ta, ea, _, hc, S1⟩ := tbElem S (B := B) (s := t) hlt
      have no : ∀ h', St L h' → (decide (fs[i].name.length ≤ 300) && decide (fs[i].s.length ≤ 3000) && smallT k fs[i].t) = false → qao.j3 K (qao.L2 K fuel) t.1 t.2.1 t.2.2 (12 - (k : Int)) i true h' := by
        intro h' S' e
        unfold qao.j3
        refine ifT rfl ?_
        have := hK h' S'
        rw [ek, all_false hlt e] at this
        exact this
      refine ⟨pa, ea, by omega, by omega, _, hc 0 _ rfl, ?_⟩
      by_cases e1 : fs[i].name.length ≤ 300
      case neg => exact ifT' (by simp; omega) (no h S (by rw [decide_eq_false e1]; rfl))
      refine ifF' (by simp; omega) ⟨pa, ea, by omega, by omega, _, hc 3 _ rfl, ?_⟩
      by_cases e2 : fs[i].s.length ≤ 3000
      case neg => exact ifT' (by simp; omega) (no h S (by rw [decide_eq_false e2]; simp))
      refine ifF' (by simp; omega) ⟨pa, ea, by omega, by omega, _, _, _, hc 4 _ rfl, ?_⟩
      rw [show IntKind.i64.wrap (12 - (k : Int) + 1) = 13 - (k : Int) by rw [IntKind.wrap_i64]; omega]
      refine ih (B := B) S1 fun h2 S2 => ⟨_, rfl, ?_⟩
      cases hs : smallT k fs[i].t with
      | false => exact no h2 S2.tl (by rw [hs]; simp)
      | true =>
        unfold qao.j3
        refine ifF rfl ?_
        simp only [bd]
        rw [wsucc (by omega)]
        exact small_loop (B := B) ih hk h30 hK fuel (i + 1) h2 (by omega) (by omega) (by rw [all_take hlt ht, decide_eq_true e1, decide_eq_true e2, hs]; rfl) S2.tl
    · refine ifF (by simp; omega) ?_
      rw [List.take_of_length_le (by omega)] at ht
      have := hK h S
      rw [ek, ht] at this
      exact this
theorem small_spec : ∀ k : Nat, k ≤ 12 → SmallC k
  | 0, _ => by
    intro S _ hK; rename_i K L h B t fs _ _
    have lt := tbLen S (B := B) (s := t)
    refine qao.ok ?_
    unfold qao.p0 qao.j1
    exact ⟨fun _ => ifT (by decide) (hK h S), fun _ => ifT rfl (hK h S)⟩
  | k + 1, hk => by
    intro S _ hK; rename_i K L h B t fs _
    have ih : SmallC k := small_spec k (by omega)
    have lt := tbLen S (B := B) (s := t)
    refine qao.ok ?_
    unfold qao.p0 qao.j1
    rw [show (13 : Int) - ((k + 1 : Nat) : Int) = 12 - (k : Int) by omega]
    by_cases h30 : fs.length ≤ 30
    · exact ifF' (by simp; omega) (ifF (by simp; omega) ⟨fs.length + 1, small_loop (B := B) ih (by omega) h30 hK _ 0 h (by omega) (by omega) rfl S⟩)
    · refine ifT' (by simp; omega) (ifT rfl ?_)
      have := hK h S
      unfold smallT at this
      rw [decide_eq_false h30, Bool.false_and] at this
      exact this
theorem smallS {B : Nat → Prop} {t : SV} {fs : List PF} (S : St L h) [In (Tb B t) L fs] (hK : ∀ h', St L h' → K (.bool (smallT 12 fs)) h') : CallsH P F.qao [.slice t.1 t.2.1 t.2.2, .int .i64 1] K h :=
  small_spec 12 (by omega) (B := B) S hK
end
end Go.Proofs.Ytjkiaeccjelklaa.Pr
end
section
set_option linter.unusedVariables false
set_option linter.unusedSimpArgs false
namespace Go.Proofs.Ytjkiaeccjelklaa.Pr
open Go Go.Lift Go.Proofs
section
variable {K : KT} {L R : List Asr} {h : Heap}
theorem awakeS (S : St L h) (hK : ∀ h', St L h' → K (.bool true) h') : CallsH P F.qbm [] K h := by
  refine qbm.ok ?_
  unfold qbm.p0
  simp only [bd]
  have S1 : St (Im 1 (some (top h), 1, 1) (nums [5]) :: L) (al h #[.int .u64 5] T.uint64) := S.lit (nums [5]) T.uint64 1 rfl
  generalize al h #[.int .u64 5] T.uint64 = h1 at *
  have S2 : St (Im 1 (some (top h1), 2, 2) (bools [true, true]) :: Im 1 (some (top h), 1, 1) (nums [5]) :: L) (al h1 #[.bool true, .bool true] T.bool) := S1.lit (bools [true, true]) T.bool 2 rfl
  generalize al h1 #[.bool true, .bool true] T.bool = h2 at *
  generalize top h = a1 at *
  generalize top h1 = a2 at *
  have S3 : St (Im 1 (none, 0, 0) (u8s []) :: Im 1 (none, 0, 0) (strs []) :: Tb (fun _ => False) (none, 0, 0) [] :: Im 1 (some a2, 2, 2) (bools [true, true]) :: Im 1 (some a1, 1, 1) (nums [5]) :: L) h2 := ((tbNil 0 S2).imNil 1 0).imNil 1 0
  refine mappS (t := (none, 0, 0)) (bs := []) (a := 60) (b := 120) (y := ⟨(some a1, 1, 1), (none, 0, 0), (some a2, 2, 2), (none, 0, 0)⟩) (x := ⟨[5], [], [true, true], []⟩) (B := fun _ => False) S3 ⟨by simp, by simp, by simp, by simp, by simp, fun f hf => (by cases hf), by simp⟩ (by simp) (by decide) (by decide) fun p l c h3 S4 => ⟨_, _, _, _, rfl, ?_⟩
  have em : methW 60 120 ⟨[5], [], [true, true], []⟩ = some [0, 60, 0, 120, 0, 0, 0, 0, 0, 0, 0, 5, 3] := by decide +kernel
  rw [em] at S4 ⊢
  simp only [List.nil_append, Option.getD_some, Option.isSome_some] at S4 ⊢
  have S5 := S4.fz 1 (p, l, c)
  have ep : methP [0, 60, 0, 120, 0, 0, 0, 0, 0, 0, 0, 5, 3] = .inr (60, 120, ⟨[5], [], [true, true], []⟩) := by kernel_rfl
  have e1 : methP [0, 60, 0, 99] = .inl 5 := by kernel_rfl
  have e2 : methP [0, 60, 0] = .inl 4 := by kernel_rfl
  refine methS (s := (p, l, c)) S5 (by simp) fun y B h4 S6 => ⟨_, _, rfl, ?_⟩
  rw [ep] at S6
  simp only [ep, resE, resM] at S6 ⊢
  have S7 := S6.al (mcells 0 0 mnil) T.api_Method
  refine ⟨rfl, S7.putA (top h4) rfl (by simp [one]) fun h5 S8 => ?_⟩
  clear S7
  generalize top h4 = b1 at *
  have S9 : St (Im 1 (some (top h5), 4, 4) (u8s [0, 60, 0, 99]) :: _) (al h5 #[.int .u8 0, .int .u8 60, .int .u8 0, .int .u8 99] T.uint8) := S8.lit (u8s [0, 60, 0, 99]) T.uint8 4 rfl
  refine methS (s := (some (top h5), 4, 4)) (bs := [0, 60, 0, 99]) S9 (by simp) fun y2 B2 h6 S10 => ⟨_, _, rfl, ?_⟩
  have S11 := S10.al (mcells 0 0 mnil) T.api_Method
  refine ⟨rfl, S11.putA (top h6) rfl (by simp [one]) fun h7 S12 => ?_⟩
  have S13 : St (Im 1 (some (top h7), 3, 3) (u8s [0, 60, 0]) :: _) (al h7 #[.int .u8 0, .int .u8 60, .int .u8 0] T.uint8) := S12.lit (u8s [0, 60, 0]) T.uint8 3 rfl
  refine methS (s := (some (top h7), 3, 3)) (bs := [0, 60, 0]) S13 (by simp) fun y3 B3 h8 S14 => ⟨_, _, rfl, ?_⟩
  have S15 := S14.al (mcells 0 0 mnil) T.api_Method
  refine ⟨rfl, S15.putA (top h8) rfl (by simp [one]) fun h9 S16 => ?_⟩
  rw [e1, e2]
  refine Form.spec fun h10 k10 => ⟨_, _, rfl, ?_⟩
  have S17 := S16.kept k10
  have ef : formP (20, 41) = some [] := by decide +kernel
  rw [ef]
  have S18 : St (Bx b1 (mcells 60 120 y) :: Im 1 (p, l, c) (u8s [0, 60, 0, 120, 0, 0, 0, 0, 0, 0, 0, 5, 3]) :: Im 1 y.n (nums [5]) :: Im 1 y.s (strs []) :: Im 1 y.f (bools [true, true]) :: Tb B y.t [] :: L) h10 := S17.to
  have sl := (isl8 S18 (s := (p, l, c)) (bs := [0, 60, 0, 120, 0, 0, 0, 0, 0, 0, 0, 5, 3])).1
  have ll : l = 13 := Sl.len sl
  subst ll
  refine ⟨fun _ => ifT rfl (ixV (i := 12) (n := 12) sl rfl (w := .int .u8 3) rfl fun q eq cq => ?_), fun e => absurd e (by simp)⟩
  simp only [rdN cq, resE, rdC' (S18.rall b1 6 rfl)]
  refine ifT rfl (ifT rfl ?_)
  have S19 : St (Im 1 (some (top h10), 1, 1) (nums [5]) :: _) (al h10 #[.int .u64 5] T.uint64) := S18.lit (nums [5]) T.uint64 1 rfl
  generalize al h10 #[.int .u64 5] T.uint64 = h11 at *
  have S20 : St (Im 1 (some (top h11), 2, 2) (bools [true, true]) :: _) (al h11 #[.bool true, .bool true] T.bool) := S19.lit (bools [true, true]) T.bool 2 rfl
  generalize al h11 #[.bool true, .bool true] T.bool = h12 at *
  have S21 : St (Im 1 (none, 0, 0) (strs []) :: _) h12 := S20.imNil 1 0
  have lt := tbLen S21 (B := B) (s := y.t)
  refine sameMS (y := y) (z := ⟨(some (top h10), 1, 1), (none, 0, 0), (some (top h11), 2, 2), (none, 0, 0)⟩) (x := ⟨[5], [], [true, true], []⟩) (w := ⟨[5], [], [true, true], []⟩) (bt := true) S21 ⟨by simp, by simp, by simp⟩ (fun S' k => sameTab0 (u := (none, 0, 0)) lt rfl (k _ S')) fun h13 S22 => ⟨_, rfl, ?_⟩
  refine ifT rfl (ifT rfl (ifT rfl (ifT rfl (hK h13 S22.to))))
end
end Go.Proofs.Ytjkiaeccjelklaa.Pr
end

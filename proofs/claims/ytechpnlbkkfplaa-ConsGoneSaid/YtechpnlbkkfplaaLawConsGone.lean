/- ConsGone: what is dropped takes no more; the others keep their order. -/
import Derived.Test.YtechpnlbkkfplaaConsQ
import Derived.Test.YtechpnlbkkfplaaConsT
import Derived.Test.YtechpnlbkkfplaaLiftD
import Derived.Test.YtechpnlbkkfplaaPrLaw19Consgone
import Derived.Test.YtechpnlbkkfplaaLiftArg
set_option linter.unusedVariables false
set_option linter.unusedSimpArgs false
namespace Go.Proofs.Ytechpnlbkkfplaa.Pr
open Go Go.Lift Go.Proofs

def u8w (z : Int) : UInt8 := UInt8.ofNat (z % 256).toNat
theorem u8w_eq (z : Int) : IntKind.u8.wrap z = ((u8w z).toNat : Int) := by
  have h : IntKind.u8.wrap z = z % 256 := by simp [IntKind.wrap, IntKind.signed, IntKind.bits]
  unfold u8w
  rw [h, UInt8.toNat_ofNat', Nat.mod_eq_of_lt (by omega)]
  omega
abbrev conG (n : Int) : CN := (bitsI .and .i64 n 1, bitsI .and .i64 (shrI .i64 n 1) 1, [u8w (97 + ((u8w (bitsI .and .i64 (shrI .i64 n 2) 3)).toNat : Int))], [u8w (112 + ((u8w (bitsI .and .i64 (shrI .i64 n 4) 1)).toNat : Int))], false)
abbrev QG (c : CN) : Prop := quC c = [112] ∨ quC c = [113]
theorem conG_q (n : Int) : QG (conG n) := by
  unfold QG quC
  show [u8w (112 + ((u8w (bitsI .and .i64 (shrI .i64 n 4) 1)).toNat : Int))] = _ ∨ [u8w (112 + ((u8w (bitsI .and .i64 (shrI .i64 n 4) 1)).toNat : Int))] = _
  rw [m1]
  have : shrI .i64 n 4 % 2 = 0 ∨ shrI .i64 n 4 % 2 = 1 := by omega
  rcases this with e | e <;> rw [e]
  · left; decide
  · right; decide
def isG (m x y : Int) (c : CN) : Bool := if m == 0 then c.1 == x && c.2.1 == y else if m == 1 then quC c == [112] else c.1 == x && (c.2.1 == y && c.2.2.1 == [98])

section
variable {K : KT} {L : List Asr} {h : Heap} {s : Addr}

theorem dStr {R : List Asr} {a : Addr} {b : UInt8} (S : St L h) [Has (Bx a) L [.int .u8 (b.toNat : Int)] R] {F : List UInt8 → Heap → Prop} (hK : F [b] h) :
    SemH P (Go.convert T.sl_uint8 T.string (.slice (some a) 1 1)) (fun v h' => ∃ s, v = .string (mkS s) ∧ F s h') h := by
  have sa : Sl 1 h (some a) 1 (u8s [b]) := ⟨rfl, (S.get (Bx a)).mem.1⟩
  exact str_ok (e := T.uint8) (by kernel_rfl) (by kernel_rfl) (by kernel_rfl) sa ⟨_, rfl, hK⟩
theorem finC {L0 R : List Asr} (S : St L0 h) {a : Addr} {old ws : List Value} [Has (Bx a) L0 old R] [HL : Lift.Sub L R] {Q : Heap → Prop} (hl : ws.length = old.length) (ho : ∀ w ∈ ws, one w = true) (hK : ∀ h', St (Bx a ws :: L) h' → Q h') :
    ∃ h', stC h a 0 ws = some h' ∧ Q h' :=
  (S.get (Bx a)).wrA hl ho fun h' S' => hK h' (by
    obtain ⟨D, hD⟩ := HL.ex
    exact St.left (L := Bx a ws :: L) (D := D) (S'.perm (List.Perm.cons _ hD)))

variable {t : SV} {xs : List Int}
abbrev GL (t o : SV) (xs : List Int) (A : List CN) (s : Addr) (last : Int) (L : List Asr) : List Asr := Ow 5 o (A.flatMap cc) :: CnW s A last :: Im 1 t (xs.map kkI) :: L

set_option maxHeartbeats 4000000 in
theorem cg_lit {o : SV} {A : List CN} {last m : Int} {R13 : OA → Nat → Nat → Int → OA → OA → Nat → Nat → Int → Heap → Prop} {i : Nat} (lt : t.2.1 = xs.length) (hi : i < xs.length) (S : St (GL t o xs A s last L) h)
    (fin : ∀ a h', St (Bx a (cc (conG xs[i])) :: GL t o xs A s last L) h' → waybilllaw19_ConsGone.j16 K R13 t.1 t.2.1 t.2.2 m (some s) o.1 o.2.1 o.2.2 i a h') :
    waybilllaw19_ConsGone.j14 K R13 t.1 t.2.1 t.2.2 m (some s) o.1 o.2.1 o.2.2 i true h := by
  unfold waybilllaw19_ConsGone.j14
  have hx : (xs.map kkI)[i]? = some (.int .i64 xs[i]) := by simp [hi]
  refine ifT rfl (ixV (n := i) (w := .int .i64 xs[i]) (S.isl 1 t) rfl hx fun p ep cp => ?_)
  generalize xs[i] = n at *
  have h0 : (0 : Int) ≤ (i : Int) := by omega
  have h1 : (i : Int) < ((t.2.1 : Nat) : Int) := by omega
  refine ⟨p, ep, h0, h1, p, ep, h0, h1, p, ep, h0, h1, n, cp, n, cp, by decide, n, cp, by decide, n, cp, by decide, ?_⟩
  simp only [u8w_eq]
  unfold conG at fin
  generalize u8w (97 + ((u8w (bitsI .and .i64 (shrI .i64 n 2) 3)).toNat : Int)) = B1 at *
  generalize u8w (112 + ((u8w (bitsI .and .i64 (shrI .i64 n 4) 1)).toNat : Int)) = B2 at *
  generalize bitsI .and .i64 n 1 = N1 at *
  generalize bitsI .and .i64 (shrI .i64 n 1) 1 = N2 at *
  repeat' first
    | with_reducible refine And.intro ?_ ?_
    | with_reducible refine St.bd1 S fun S => ?_
    | with_reducible refine dStr S ?_
    | with_reducible refine finC S ?_ (cc_one (N1, N2, [B1], [B2], false)) (fin _)
    | rfl

abbrev gD (a : Int) : CN → Bool := isG (bitsI .and .i64 a 3) (bitsI .and .i64 (shrI .i64 a 2) 1) (bitsI .and .i64 (shrI .i64 a 3) 1)
abbrev rest (a : Int) (A : List CN) : List CN := A.filter fun c => !gD a c

theorem ofC_at {R : List CN} {n : Nat} (hn : n < R.length) {q : List UInt8} (e : quC R[n] = q) : (ofC R q)[(ofC (R.take n) q).length]? = some R[n] ∧ ofC (R.take (n + 1)) q = ofC (R.take n) q ++ [R[n]] := by
  have h1 : R = R.take n ++ R[n] :: R.drop (n + 1) := by rw [← List.drop_eq_getElem_cons hn, List.take_append_drop]
  refine ⟨?_, ?_⟩
  · conv => lhs; arg 1; rw [h1]
    unfold ofC
    rw [List.filter_append, List.filter_cons_of_pos (by simp [e]), List.getElem?_append_right (Nat.le_refl _), Nat.sub_self]
    rfl
  · rw [List.take_add_one, List.getElem?_eq_getElem hn]
    unfold ofC
    rw [List.filter_append]
    simp [e]
theorem ofC_skip {R : List CN} {n : Nat} (hn : n < R.length) {q : List UInt8} (e : quC R[n] ≠ q) : ofC (R.take (n + 1)) q = ofC (R.take n) q := by
  rw [List.take_add_one, List.getElem?_eq_getElem hn]
  unfold ofC
  rw [List.filter_append]
  simp [e]

theorem cg_look {p q o : SV} {R : List CN} (hR : ∀ c ∈ R, QG c) (hl : R.length < 1000) (sp : Sl 5 h p.1 p.2.1 ((ofC R [112]).flatMap cc)) (sq : Sl 5 h q.1 q.2.1 ((ofC R [113]).flatMap cc)) (so : Sl 5 h o.1 o.2.1 (R.flatMap cc)) (hK : K (.bool true) h) :
    ∀ (fuel n : Nat), R.length - n < fuel → n ≤ R.length → waybilllaw19_ConsGone.L6 K fuel o.1 o.2.1 o.2.2 p.1 p.2.1 p.2.2 q.1 q.2.1 q.2.2 ((ofC (R.take n) [112]).length : Nat) ((ofC (R.take n) [113]).length : Nat) n h
  | 0, _, hf, _ => absurd hf (Nat.not_lt_zero _)
  | fuel + 1, n, hf, hn => by
    have lo : o.2.1 = R.length := by have := so.1; rw [cc_len] at this; omega
    have lp : p.2.1 = (ofC R [112]).length := by have := sp.1; rw [cc_len] at this; omega
    have lq : q.2.1 = (ofC R [113]).length := by have := sq.1; rw [cc_len] at this; omega
    have b1 : (ofC (R.take n) [112]).length ≤ n := Nat.le_trans (List.length_filter_le _ _) (by rw [List.length_take]; omega)
    have b2 : (ofC (R.take n) [113]).length ≤ n := Nat.le_trans (List.length_filter_le _ _) (by rw [List.length_take]; omega)
    unfold waybilllaw19_ConsGone.L6
    by_cases hlt : n < R.length
    · have hx : R[n]? = some R[n] := List.getElem?_eq_getElem hlt
      obtain ⟨a, ea, a0, a1, ac⟩ := ixF cc5 (by decide) so (i := (n : Int)) (n := n) rfl hx
      refine ifT (by simp; omega) ⟨a, ea, a0, a1, _, ac 3 _ rfl, ?_⟩
      obtain ⟨a', ea', a0', a1', cs, rd, e⟩ := ixS cc5 (by decide) so (i := (n : Int)) rfl hx (R := fun cs => cs = cc R[n]) rfl
      subst e
      have next : waybilllaw19_ConsGone.j7 K (waybilllaw19_ConsGone.L6 K fuel) o.1 o.2.1 o.2.2 p.1 p.2.1 p.2.2 q.1 q.2.1 q.2.2 ((ofC (R.take (n + 1)) [112]).length : Nat) ((ofC (R.take (n + 1)) [113]).length : Nat) n h := by
        unfold waybilllaw19_ConsGone.j7
        unfold bd
        rw [show IntKind.i64.wrap ((n : Int) + 1) = ((n + 1 : Nat) : Int) from wrapS (by omega) (by omega)]
        exact cg_look hR hl sp sq so hK fuel (n + 1) (by omega) (by omega)
      rcases hR R[n] (List.getElem_mem hlt) with e | e
      · obtain ⟨g1, g2⟩ := ofC_at hlt e
        rw [g2, ofC_skip hlt (q := [113]) (by rw [e]; decide), List.length_append, List.length_singleton] at next
        have hi := (List.getElem?_eq_some_iff.1 g1).1
        obtain ⟨b, eb, b0, b1', cs, rd', e2⟩ := ixS cc5 (by decide) sp (i := ((ofC (R.take n) [112]).length : Int)) rfl g1 (R := fun cs => cs = cc R[n]) rfl
        subst e2
        refine ifT (by show (quC R[n] == _) = true; rw [e]; rfl) (ifF' (by simp; omega) ⟨b, eb, b0, b1', a', ea', a0', a1', _, rd', _, rd, conNeqS (a := R[n]) (b := R[n]) _ _ ⟨_, rfl, ?_⟩⟩)
        unfold waybilllaw19_ConsGone.j8
        refine ifF (by simp) ?_
        unfold bd
        rw [show IntKind.i64.wrap (((ofC (R.take n) [112]).length : Int) + 1) = (((ofC (R.take n) [112]).length + 1 : Nat) : Int) from wrapS (by omega) (by omega)]
        exact next
      · obtain ⟨g1, g2⟩ := ofC_at hlt e
        rw [g2, ofC_skip hlt (q := [112]) (by rw [e]; decide), List.length_append, List.length_singleton] at next
        have hi := (List.getElem?_eq_some_iff.1 g1).1
        obtain ⟨b, eb, b0, b1', cs, rd', e2⟩ := ixS cc5 (by decide) sq (i := ((ofC (R.take n) [113]).length : Int)) rfl g1 (R := fun cs => cs = cc R[n]) rfl
        subst e2
        refine ifF (by show (quC R[n] == _) = false; rw [e]; rfl) (ifF' (by simp; omega) ⟨b, eb, b0, b1', a', ea', a0', a1', _, rd', _, rd, conNeqS (a := R[n]) (b := R[n]) _ _ ⟨_, rfl, ?_⟩⟩)
        unfold waybilllaw19_ConsGone.j9
        refine ifF (by simp) ?_
        unfold bd
        rw [show IntKind.i64.wrap (((ofC (R.take n) [113]).length : Int) + 1) = (((ofC (R.take n) [113]).length + 1 : Nat) : Int) from wrapS (by omega) (by omega)]
        exact next
    · have : n = R.length := by omega
      subst this
      refine ifF (by simp; omega) ?_
      unfold waybilllaw19_ConsGone.j5
      rw [List.take_length]
      refine ifT (by simp; omega) ?_
      unfold bd
      rw [show (((ofC R [113]).length : Int) == ((q.2.1 : Nat) : Int)) = true by simp; omega]
      exact hK

theorem cg_of {o : SV} {R : List CN} {last : Int} (hR : ∀ c ∈ R, QG c) (hl : R.length < 1000) (h63 : last < 4611686018427387904) (hK : ∀ h', St L h' → K (.bool true) h') (S : St (CnW s R last :: Ow 5 o (R.flatMap cc) :: L) h) :
    waybilllaw19_ConsGone.j4 K (some s) o.1 o.2.1 o.2.2 h := by
  unfold waybilllaw19_ConsGone.j4
  refine ofConW (q := [112]) S (by omega) (by omega) fun h1 p S1 => ⟨_, _, _, rfl, ?_⟩
  refine ofConW (q := [113]) S1.p1 (by omega) (by omega) fun h2 q S2 => ⟨_, _, _, rfl, R.length + 1, ?_⟩
  exact cg_look hR hl S2.p2.sl S2.sl S2.p3.sl (hK h2 S2.tl.tl.tl.tl) _ 0 (by omega) (by omega)

theorem key_is {x y : Int} {c : CN} : (c.1 == x && (c.2.1 == y && c.2.2.1 == [98])) = decide (keyC c = (x, y, [98])) := by
  rw [Bool.eq_iff_iff]
  simp [keyC]

theorem cg_drop {a : Int} {r o : SV} {A : List CN} {last : Int} (hA : ∀ c ∈ A, QG c) (hl : A.length < 1000) (h63 : last < 4611686018427387904) (hK : ∀ h', St L h' → K (.bool true) h') (S : St (CnW s A last :: Ow 5 o ((rest a A).flatMap cc) :: Ow 5 r (A.flatMap cc) :: L) h) :
    waybilllaw19_ConsGone.j3 K a (some s) r.1 r.2.1 r.2.2 o.1 o.2.1 o.2.2 h := by
  have hR : ∀ c ∈ rest a A, QG c := fun c hc => hA c (List.mem_filter.1 hc).1
  have hr : (rest a A).length < 1000 := Nat.lt_of_le_of_lt (List.length_filter_le _ _) hl
  have lr : r.2.1 = A.length := by have := S.p2.ow.1; rw [cc_len] at this; omega
  have lo : o.2.1 = (rest a A).length := by have := S.p1.ow.1; rw [cc_len] at this; omega
  unfold waybilllaw19_ConsGone.j3
  unfold bd
  have fin : ∀ h', St (CnW s (rest a A) last :: Ow 5 o ((rest a A).flatMap cc) :: Ow 5 r (A.flatMap cc) :: L) h' → waybilllaw19_ConsGone.j4 K (some s) o.1 o.2.1 o.2.2 h' := fun h' S' => cg_of hR hr h63 (L := Ow 5 r (A.flatMap cc) :: L) (fun h' S' => hK h' S'.tl) S'
  cases e0 : (bitsI .and .i64 a 3 == 0) with
  | true =>
    refine ifT rfl ⟨by decide, by decide, dropChanW S (by omega) (by omega) fun h1 S1 => ⟨rfl, fin h1 ?_⟩⟩
    rw [show (A.filter fun c => !(c.1 == bitsI .and .i64 (shrI .i64 a 2) 1 && c.2.1 == bitsI .and .i64 (shrI .i64 a 3) 1)) = rest a A from List.filter_congr fun c _ => by unfold gD isG; rw [if_pos e0]] at S1
    exact S1
  | false =>
    refine ifF rfl ?_
    cases e1 : (bitsI .and .i64 a 3 == 1) with
    | true =>
      refine ifT rfl (dropQueueW S (by omega) (by omega) fun h1 S1 => ⟨rfl, fin h1 ?_⟩)
      rw [show (A.filter fun c => !(quC c == [112])) = rest a A from List.filter_congr fun c _ => by unfold gD isG; rw [if_neg (by rw [e0]; decide), if_pos e1]] at S1
      exact S1
    | false =>
      have hd : rest a A = outC A (bitsI .and .i64 (shrI .i64 a 2) 1, bitsI .and .i64 (shrI .i64 a 3) 1, [98]) := List.filter_congr fun c _ => by
        unfold gD isG
        rw [if_neg (by rw [e0]; decide), if_neg (by rw [e1]; decide), key_is]
        simp
      refine ifF rfl ⟨by decide, by decide, dropTagW S fun h1 S1 => ⟨_, rfl, ?_⟩⟩
      rw [← hd] at S1
      refine ifF ?_ (fin h1 S1)
      rw [lr, lo, Bool.not_eq_false', beq_iff_eq, Bool.eq_iff_iff, decide_eq_true_iff, decide_eq_true_iff]
      have hle : (rest a A).length ≤ A.length := List.length_filter_le _ _
      constructor
      · intro hm
        obtain ⟨c, hc, ec⟩ := List.mem_map.1 hm
        have : (rest a A).length ≠ A.length := fun e => by
          have h2 := List.length_filter_eq_length_iff.1 e c hc
          unfold gD isG at h2
          rw [if_neg (by rw [e0]; decide), if_neg (by rw [e1]; decide), key_is, ec] at h2
          simp at h2
        omega
      · intro hlt
        refine Classical.byContradiction fun hm => ?_
        have : (rest a A).length = A.length := List.length_filter_eq_length_iff.2 fun c hc => by
          unfold gD isG
          rw [if_neg (by rw [e0]; decide), if_neg (by rw [e1]; decide), key_is, Bool.not_eq_true', decide_eq_false_iff_not]
          exact fun e => hm (List.mem_map.2 ⟨c, hc, e⟩)
        omega

theorem appG {p : OA} {l c : Nat} {ys : List Value} (S : St (Ow 5 (p, l, c) ys :: L) h) (x : CN) (hl : l ≤ 1000000) {K : KT} {ty : TypeId} (hK : ∀ p' c' h', St (Ow 5 (p', l + 1, c') (ys ++ cc x) :: L) h' → K (.slice p' (l + 1) c') h') :
    bd (al h (List.toArray (cc x)) T.api_Con) fun h1 => SemH P (Builtin.append_ #[T.sl_api_Con, T.sl_api_Con] ty #[.slice p l c, .slice (some (top h)) 1 1]) K h1 := by
  refine St.bd1 (cs := cc x) S fun S1 => ?_
  have sa : Sl 5 (al h (cc x).toArray T.api_Con) (some (top h)) 1 (cc x) := ⟨rfl, S1.mem.1⟩
  exact S1.p1.app (s := (p, l, c)) sl_con rfl u_slc (fun k e => by cases e) (Src.slice (n := 1) (c := 1) sa (cc_one _)) (by show (l + 1) * 56 ≤ _; omega) (by show l + 1 ≤ _; omega) fun p' c' h' S' => hK p' c' h' S'.d1

theorem cg_rest {a : Int} {r : SV} {A : List CN} {last : Int} (hA : ∀ c ∈ A, QG c) (hl : A.length < 1000) (h63 : last < 4611686018427387904) (hK : ∀ h', St L h' → K (.bool true) h') :
    ∀ (fuel i : Nat) (o : SV) (h : Heap), A.length - i < fuel → i ≤ A.length → St (Ow 5 o ((rest a (A.take i)).flatMap cc) :: Ow 5 r (A.flatMap cc) :: CnW s A last :: L) h → waybilllaw19_ConsGone.L10 K fuel a (some s) r.1 r.2.1 r.2.2 o.1 o.2.1 o.2.2 i h
  | 0, _, _, _, hf, _, _ => absurd hf (Nat.not_lt_zero _)
  | fuel + 1, i, o, h, hf, hi, S => by
    have lr : r.2.1 = A.length := by have := S.p1.ow.1; rw [cc_len] at this; omega
    unfold waybilllaw19_ConsGone.L10
    by_cases hlt : i < A.length
    · have hx : A[i]? = some A[i] := List.getElem?_eq_getElem hlt
      refine ifT (by simp; omega) (ixS cc5 (by decide) S.p1.sl rfl hx ?_)
      unfold bd
      have S1 : St (Bx (top h) zc :: Ow 5 o ((rest a (A.take i)).flatMap cc) :: Ow 5 r (A.flatMap cc) :: CnW s A last :: L) (al h zc.toArray T.api_Con) := S.al zc T.api_Con
      refine ⟨rfl, S1.wrA (ws := cc A[i]) rfl (cc_one _) fun h2 S2 => ?_⟩
      have et : A.take (i + 1) = A.take i ++ [A[i]] := by rw [List.take_add_one, hx]; rfl
      have next : ∀ (o : SV) h', St (Ow 5 o ((rest a (A.take (i + 1))).flatMap cc) :: Ow 5 r (A.flatMap cc) :: CnW s A last :: L) h' → waybilllaw19_ConsGone.j11 K (waybilllaw19_ConsGone.L10 K fuel) a (some s) r.1 r.2.1 r.2.2 o.1 o.2.1 o.2.2 i h' := fun o h' S' => by
        unfold waybilllaw19_ConsGone.j11
        unfold bd
        rw [show IntKind.i64.wrap ((i : Int) + 1) = ((i + 1 : Nat) : Int) from wrapS (by omega) (by omega)]
        exact cg_rest hA hl h63 hK fuel (i + 1) o h' (by omega) (by omega) S'
      have j12 : ∀ b : Bool, b = gD a A[i] → waybilllaw19_ConsGone.j12 K (waybilllaw19_ConsGone.L10 K fuel) a (some s) r.1 r.2.1 r.2.2 o.1 o.2.1 o.2.2 i (top h) b h2 := fun b eb => by
        unfold waybilllaw19_ConsGone.j12
        cases b with
        | true =>
          refine ifF rfl (next o h2 ?_)
          rw [et]
          unfold rest
          rw [List.filter_append, List.filter_cons_of_neg (by rw [← eb]; decide), List.filter_nil, List.append_nil]
          exact S2.tl
        | false =>
          have lo : o.2.1 ≤ i := by
            have := S2.p1.ow.1
            rw [cc_len] at this
            have h3 : (rest a (A.take i)).length ≤ (A.take i).length := List.length_filter_le _ _
            rw [List.length_take] at h3
            omega
          refine ifT rfl (S2.rdA (n := 5) rfl ⟨_, bld_con _, appG (p := o.1) (l := o.2.1) (c := o.2.2) S2.p1 A[i] (by omega) fun p' c' h' S' => ⟨_, _, _, rfl, next (p', o.2.1 + 1, c') h' ?_⟩⟩)
          rw [et]
          unfold rest
          rw [List.filter_append, List.filter_cons_of_pos (by rw [← eb]; rfl), List.filter_nil, List.flatMap_append, show [A[i]].flatMap cc = cc A[i] by simp]
          exact S'.d1
      cases e0 : (bitsI .and .i64 a 3 == 0) with
      | true =>
        refine ifT rfl ⟨_, S2.c 0 rfl, by decide, ?_⟩
        cases c1 : (A[i].1 == bitsI .and .i64 (shrI .i64 a 2) 1) with
        | true => exact ifT rfl ⟨_, S2.c 1 rfl, by decide, j12 _ (by unfold gD isG; rw [if_pos e0, c1]; rfl)⟩
        | false => exact ifF rfl (j12 _ (by unfold gD isG; rw [if_pos e0, c1]; rfl))
      | false =>
        refine ifF rfl ?_
        cases e1 : (bitsI .and .i64 a 3 == 1) with
        | true => exact ifT rfl ⟨_, S2.c 3 rfl, j12 _ (by unfold gD isG; rw [if_neg (by rw [e0]; decide), if_pos e1])⟩
        | false =>
          have eg : gD a A[i] = (A[i].1 == bitsI .and .i64 (shrI .i64 a 2) 1 && (A[i].2.1 == bitsI .and .i64 (shrI .i64 a 3) 1 && A[i].2.2.1 == [98])) := by
            unfold gD isG; rw [if_neg (by rw [e0]; decide), if_neg (by rw [e1]; decide)]
          refine ifF rfl ⟨_, S2.c 0 rfl, by decide, ?_⟩
          cases c1 : (A[i].1 == bitsI .and .i64 (shrI .i64 a 2) 1) with
          | true =>
            refine ifT rfl ⟨_, S2.c 1 rfl, by decide, ?_⟩
            cases c2 : (A[i].2.1 == bitsI .and .i64 (shrI .i64 a 3) 1) with
            | true => exact ifT rfl ⟨_, S2.c 2 rfl, j12 _ (by rw [eg, c1, c2]; rfl)⟩
            | false => exact ifF rfl (j12 _ (by rw [eg, c1, c2]; rfl))
          | false => exact ifF rfl (j12 _ (by rw [eg, c1]; rfl))
    · have : i = A.length := by omega
      subst this
      refine ifF (by simp; omega) ?_
      rw [List.take_length] at S
      exact cg_drop hA hl h63 hK S.p2

theorem cg_add {a : Int} (lt : t.2.1 = xs.length) (hK : ∀ h', St L h' → K (.bool true) h') :
    ∀ (fuel i : Nat) (A : List CN) (last : Int) (o : SV) (h : Heap), xs.length - i < fuel → i ≤ xs.length → i ≤ 20 → (∀ c ∈ A, QG c) → A.length ≤ i → 0 ≤ last ∧ last ≤ i → St (GL t o xs A s last L) h →
      waybilllaw19_ConsGone.L13 K fuel t.1 t.2.1 t.2.2 a (some s) o.1 o.2.1 o.2.2 i h
  | 0, _, _, _, _, _, hf, _, _, _, _, _, _ => absurd hf (Nat.not_lt_zero _)
  | fuel + 1, i, A, last, o, h, hf, hi, h20, hA, hl, h0, S => by
    have lo : o.2.1 = A.length := by have := S.ow.1; rw [cc_len] at this; omega
    have out : waybilllaw19_ConsGone.j2 K a (some s) o.1 o.2.1 o.2.2 h := by
      unfold waybilllaw19_ConsGone.j2
      exact ⟨A.length + 1, cg_rest (L := Im 1 t (xs.map kkI) :: L) (last := last) hA (by omega) (by omega) (fun h' S' => hK h' S'.tl) _ 0 (none, 0, 0) h (by omega) (by omega) (S.owNil 5)⟩
    have outF : waybilllaw19_ConsGone.j14 K (waybilllaw19_ConsGone.L13 K fuel) t.1 t.2.1 t.2.2 a (some s) o.1 o.2.1 o.2.2 i false h := by
      unfold waybilllaw19_ConsGone.j14
      exact ifF rfl out
    unfold waybilllaw19_ConsGone.L13
    by_cases hlt : i < xs.length
    · refine ifT (by simp; omega) ?_
      by_cases hlt2 : i < 20
      · rw [decide_eq_true (show (i : Int) < 20 by omega)]
        refine cg_lit lt hlt S fun b h1 S1 => ?_
        have next : ∀ (A' : List CN) (last' : Int) (o' : SV) h', (∀ c ∈ A', QG c) → A'.length ≤ i + 1 → 0 ≤ last' ∧ last' ≤ (i + 1 : Nat) → St (GL t o' xs A' s last' L) h' → waybilllaw19_ConsGone.j15 K (waybilllaw19_ConsGone.L13 K fuel) t.1 t.2.1 t.2.2 a (some s) o'.1 o'.2.1 o'.2.2 i h' := fun A' last' o' h' hA' hl' h0' S' => by
          unfold waybilllaw19_ConsGone.j15
          unfold bd
          rw [show IntKind.i64.wrap ((i : Int) + 1) = ((i + 1 : Nat) : Int) from wrapS (by omega) (by omega)]
          exact cg_add lt hK fuel (i + 1) A' last' o' h' (by omega) (by omega) (by omega) hA' hl' h0' S'
        unfold waybilllaw19_ConsGone.j16
        refine S1.rdA (n := 5) rfl (addConW (c := conG xs[i]) S1.p2 (by omega) (fun _ h2 S2 => ⟨_, rfl, ifF rfl ?_⟩) fun _ h2 S2 => ⟨_, rfl, ifT rfl ?_⟩)
        · exact next A last o h2 hA (by omega) (by omega) S2.p1.tl.p1
        · refine S2.p1.rdA (n := 5) rfl ⟨_, bld_con _, appG (p := o.1) (l := o.2.1) (c := o.2.2) S2.p2 (conG xs[i]) (by omega) fun p' c' h' S' => ⟨_, _, _, rfl, next (A ++ [conG xs[i]]) (last + 1) (p', o.2.1 + 1, c') h' ?_ ?_ (by omega) ?_⟩⟩
          · intro c hc
            rcases List.mem_append.1 hc with hc | hc
            · exact hA c hc
            · rw [List.mem_singleton.1 hc]; exact conG_q _
          · rw [List.length_append, List.length_singleton]; omega
          · show St (Ow 5 (p', o.2.1 + 1, c') ((A ++ [conG xs[i]]).flatMap cc) :: CnW s (A ++ [conG xs[i]]) (last + 1) :: Im 1 t (xs.map kkI) :: L) h'
            rw [List.flatMap_append, show [conG xs[i]].flatMap cc = cc (conG xs[i]) by simp]
            exact S'.p2.tl
      · rw [decide_eq_false (show ¬ (i : Int) < 20 by omega)]
        exact outF
    · exact ifF (by simp; omega) outF

theorem ConsGone.law {h : Heap} (t : SV) (xs : List Int) (tl : Sl 1 h t.1 t.2.1 (xs.map fun n => .int .i64 n)) (te : t.2.1 ≤ t.2.2) (mx : t.2.2 ≤ maxLen) (wx : ∀ x ∈ xs, (Lit.int .i64 x).wf = true) (a : Int) (ha : -9223372036854775808 ≤ a ∧ a < 9223372036854775808) :
    CallsH P F.waybilllaw19_ConsGone [t.v, .int .i64 a] (fun v h' => v = .bool true ∧ Kept h h') h := by
  refine waybilllaw19_ConsGone.ok ?_
  unfold waybilllaw19_ConsGone.p0
  have lt : t.2.1 = xs.length := by have := tl.1; simpa using this.symm
  have S0 : St (Im 1 t (xs.map kkI) :: [Old h]) h := (St.old h).imOld (List.mem_cons_self ..) tl te
  refine newConW S0 fun h1 s S1 => ⟨_, rfl, ifF' rfl (awake19S S1 fun h2 S2 => ⟨_, rfl, ?_⟩)⟩
  unfold waybilllaw19_ConsGone.j1
  exact ifF rfl ⟨xs.length + 1, cg_add (L := [Old h]) (o := (none, 0, 0)) lt (fun h' S' => ⟨rfl, S'.keptOld (List.mem_cons_self ..)⟩) _ 0 [] 0 h2 (by omega) (by omega) (by omega) (fun c hc => by cases hc) (by simp) (by omega) (S2.owNil 5)⟩
end
end Go.Proofs.Ytechpnlbkkfplaa.Pr

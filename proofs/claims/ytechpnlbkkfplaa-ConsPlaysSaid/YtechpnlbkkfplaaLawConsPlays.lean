/- ConsPlays: consumers come, take their turns, and go, as the document says; each that may not is asked, up to the first that may. -/
import Derived.Test.YtechpnlbkkfplaaConsT
import Derived.Test.YtechpnlbkkfplaaRefConsQ
import Derived.Test.YtechpnlbkkfplaaPrLaw19Consplays
import Derived.Test.YtechpnlbkkfplaaArOp19
set_option linter.unusedVariables false
set_option linter.unusedSimpArgs false
namespace Go.Proofs.Ytechpnlbkkfplaa.Pr
open Go Go.Lift Go.Proofs

abbrev cOp9 (x : Ar.X_Op19) : List Value := Ar.c_Op19 x
theorem cOp97 : ∀ x, (cOp9 x).length = 7 := fun _ => rfl
theorem cOp9_one (x : Ar.X_Op19) : ∀ v ∈ cOp9 x, one v = true := by simp [one]

/-- May it take, up to the letter N? -/
abbrev dP (N : Int) (x : CN) : Bool := (x.2.2.1 == []) || decide (IntKind.i64.wrap (lb x.2.2.1 0) ≤ N)
/-- What was asked is written down. -/
def askB (a x6 : Addr) (cells : List Value) (st : List CN) : Asr := ex fun s : SV => stars [Bx a [.slice s.1 s.2.1 s.2.2], Ow 5 s (st.flatMap cc), Bx x6 cells]

section
variable {K : KT} {L M R : List Asr} {h : Heap} {s w : Addr} {C : List CN} {last : Int}
theorem askB.out {a x6 : Addr} {cells : List Value} {st : List CN} (S : St (askB a x6 cells st :: L) h) : ∃ s : SV, St (Bx a [.slice s.1 s.2.1 s.2.2] :: Ow 5 s (st.flatMap cc) :: Bx x6 cells :: L) h := by
  obtain ⟨s, S1⟩ := St.ex S
  exact ⟨s, S1.open⟩
theorem askB.inn {a x6 : Addr} {cells : List Value} {st : List CN} {s : SV} (S : St (Bx a [.slice s.1 s.2.1 s.2.2] :: Ow 5 s (st.flatMap cc) :: Bx x6 cells :: L) h) : St (askB a x6 cells st :: L) h :=
  St.ex' s (St.close (As := [Bx a [.slice s.1 s.2.1 s.2.2], Ow 5 s (st.flatMap cc), Bx x6 cells]) S)

theorem ask_1 (a x6 : Addr) (o : Ar.X_Op19) : TellsK (askB a x6 (cOp9 o)) (fun st x => st ++ [x]) (dP o.2.1) (.func (.func F.waybilllaw19_ConsPlays_1) #[] #[.pointer (some a), .pointer (some x6)]) (fun st => st.length ≤ 100000) := fun x st N h K hok S hK => by
  obtain ⟨s, S⟩ := askB.out S
  refine callV_fn (waybilllaw19_ConsPlays_1.ok ?_)
  unfold waybilllaw19_ConsPlays_1.p0
  have hl : s.2.1 = st.length := by have := S.p1.ow.1; rw [cc_len] at this; omega
  refine St.bd1 (cs := cc x) S fun S1 => ⟨_, _, _, S1.p1.c 0 rfl, S1.rdA (n := 5) rfl ⟨cc x, bld_con _, ?_⟩⟩
  refine St.bd1 (cs := cc x) S1 fun S2 => ?_
  have S3 : St (Ow 5 s (st.flatMap cc) :: Bx (top (al h (cc x).toArray T.api_Con)) (cc x) :: Bx a [.slice s.1 s.2.1 s.2.2] :: Bx (top h) (cc x) :: Bx x6 (cOp9 o) :: N) _ := S2.to
  have sa : Sl 5 _ (some (top (al h (cc x).toArray T.api_Con))) 1 (cc x) := ⟨rfl, S2.mem.1⟩
  refine S3.app sl_con rfl u_slc (fun k e => by cases e) (Src.slice (n := 1) (c := 1) sa (cc_one _)) (by omega) (by omega) fun p' c' h3 S4 => ⟨_, _, _, rfl, ?_⟩
  have S5 : St (Bx a [.slice s.1 s.2.1 s.2.2] :: Ow 5 (p', s.2.1 + 1, c') ((st ++ [x]).flatMap cc) :: Bx (top h) (cc x) :: Bx x6 (cOp9 o) :: N) h3 := by
    rw [List.flatMap_append, List.flatMap_cons, List.flatMap_nil, List.append_nil]
    exact S4.d1.p1
  refine S5.wrA (ws := [.slice p' (s.2.1 + 1) c']) rfl (by simp [one]) fun h4 S6 => ⟨_, S6.p2.c 2 rfl, ?_⟩
  have fin := hK h4 (askB.inn (s := (p', s.2.1 + 1, c')) (show St (Bx a [.slice p' (s.2.1 + 1) c'] :: Ow 5 (p', s.2.1 + 1, c') ((st ++ [x]).flatMap cc) :: Bx x6 (cOp9 o) :: N) h4 from S6.to))
  cases hb : (x.2.2.1 == []) with
  | true =>
    refine ifT' rfl ?_
    rw [show dP o.2.1 x = true by unfold dP; rw [hb]; rfl] at fin
    exact fin
  | false =>
    have hne : x.2.2.1 ≠ [] := by simpa using hb
    have := List.length_pos_iff.2 hne
    refine ifF' rfl ⟨_, S6.p2.c 2 rfl, by omega, by omega, _, S6.p3.c 1 rfl, ?_⟩
    rw [show dP o.2.1 x = decide (IntKind.i64.wrap (lb x.2.2.1 0) ≤ o.2.1) by unfold dP; rw [hb]; rfl] at fin
    exact fin
theorem foldl_app {α : Type} : ∀ (l st : List α), l.foldl (fun st x => st ++ [x]) st = st ++ l
  | [], st => by simp
  | x :: l, st => by rw [List.foldl_cons, foldl_app l]; simp

theorem dropTB {g : WH} (S : St L h) [H : Pick (CnW s C last) L R] (hK : ∀ h', St (CnW s (outC C g) last :: R) h' → K (.bool (decide (g ∈ C.map keyC))) h') : CallsH P F.cons_Cons_Drop [.pointer (some s), .int .i64 g.1, .int .i64 g.2.1, .string (mkS g.2.2)] K h := dropTagW (S.perm H.perm) hK
theorem drop19B {g : WH} (S : St L h) (w : Addr) [Has (DcW w) L C R] (nd : (C.map keyC).Nodup) (hl : C.length < 1000000) (hK : ∀ h', St (DcW w (outC C g) :: R) h' → K (.bool (decide (g ∈ C.map keyC))) h') :
    CallsH P F.waybillref16_Cons_Drop [.pointer (some w), .int .i64 g.1, .int .i64 g.2.1, .string (mkS g.2.2)] K h := drop19 (S.get (DcW w)) nd hl hK

variable {t : SV} {xs : List Ar.X_Op19}
/-- Each queue's consumers are told alike. -/
theorem cp_rows {Rr : OA → Nat → Nat → OA → OA → Int → Heap → Prop} {i : Nat} {o : SV} {zs : List (List UInt8)} (hC : C.length < 1000) (hla : 0 ≤ last ∧ last ≤ 1000) (hz : zs.length < 1000)
    (hK : ∀ h', St (Im 1 o (zs.map strV) :: CnW s C last :: DcW w C :: M) h' → waybilllaw19_ConsPlays.j4 K Rr t.1 t.2.1 t.2.2 (some s) (some w) i h') :
    ∀ (fuel k : Nat) (h : Heap), zs.length - k < fuel → k ≤ zs.length → St (Im 1 o (zs.map strV) :: CnW s C last :: DcW w C :: M) h → waybilllaw19_ConsPlays.L8 K Rr fuel t.1 t.2.1 t.2.2 (some s) (some w) i o.1 o.2.1 o.2.2 k h
  | 0, _, _, hf, _, _ => absurd hf (Nat.not_lt_zero _)
  | fuel + 1, k, h, hf, hk, S => by
    have m := S.isl 1 o
    have el : o.2.1 = zs.length := by have := m.1; simpa using this.symm
    have hq : ∀ q, (ofC C q).length ≤ C.length := fun q => List.length_filter_le _ _
    unfold waybilllaw19_ConsPlays.L8
    by_cases hlt : k < zs.length
    · have rd : ∀ h', St (Im 1 o (zs.map strV) :: CnW s C last :: DcW w C :: M) h' → ∀ p, o.1 = some p → hcell h' (Addr.add p (Int.toNat (k : Int) * 1)) = some (strV zs[k]) := fun h' S' p ep => by
        have m2 := (S'.isl 1 o).2
        rw [ep] at m2
        have := m2.get (i := k) (v := strV zs[k]) (by simp [hlt])
        simpa using this
      have j9 : ∀ h', St (Im 1 o (zs.map strV) :: CnW s C last :: DcW w C :: M) h' → waybilllaw19_ConsPlays.j9 K Rr (waybilllaw19_ConsPlays.L8 K Rr fuel) t.1 t.2.1 t.2.2 (some s) (some w) i o.1 o.2.1 o.2.2 k (!true) h' := fun h' S' => by
        unfold waybilllaw19_ConsPlays.j9
        refine ifF rfl ?_
        unfold bd
        rw [show IntKind.i64.wrap ((k : Int) + 1) = ((k + 1 : Nat) : Int) from wrapS (by omega) (by omega)]
        exact cp_rows hC hla hz hK fuel (k + 1) h' (by omega) (by omega) S'
      refine ifT (by simp; omega) (ixV (n := k) (w := strV zs[k]) m rfl (by simp [hlt]) fun p ep cp => ixV (n := k) (w := strV zs[k]) m rfl (by simp [hlt]) fun p2 ep2 cp2 => ⟨_, cp, ?_⟩)
      with_reducible refine And.intro ?_ ⟨_, cp2, ?_⟩
      · refine ofConW (q := zs[k]) S.p1 (by omega) (by omega) fun h1 a S1 => ⟨_, _, _, rfl, ?_⟩
        have S1 : St (Im 1 o (zs.map strV) :: CnW s C last :: DcW w C :: Ow 5 a ((ofC C zs[k]).flatMap cc) :: M) h1 := S1.to
        refine ⟨_, by
          have m2 := (S1.isl 1 o).2
          rw [ep2] at m2
          have := m2.get (i := k) (v := strV zs[k]) (by simp [hlt])
          simpa using this, ?_⟩
        refine of19 (q := zs[k]) S1.p2 (by omega) fun h2 b S2 => ⟨_, _, _, rfl, ?_⟩
        have S2 : St (Ow 5 b ((ofC C zs[k]).flatMap cc) :: Ow 5 a ((ofC C zs[k]).flatMap cc) :: Im 1 o (zs.map strV) :: CnW s C last :: DcW w C :: M) h2 := S2.to
        exact same19S (by have := hq zs[k]; omega) S2.p1.sl S2.sl ⟨true, rfl, j9 h2 S2.tl.tl⟩
      · refine ofConW (q := zs[k]) S.p1 (by omega) (by omega) fun h1 a S1 => ⟨_, _, _, rfl, ?_⟩
        have S1 : St (Im 1 o (zs.map strV) :: CnW s C last :: DcW w C :: Ow 5 a ((ofC C zs[k]).flatMap cc) :: M) h1 := S1.to
        refine of19 (q := zs[k]) S1.p2 (by omega) fun h2 b S2 => ⟨_, _, _, rfl, ?_⟩
        have S2 : St (Ow 5 b ((ofC C zs[k]).flatMap cc) :: Ow 5 a ((ofC C zs[k]).flatMap cc) :: Im 1 o (zs.map strV) :: CnW s C last :: DcW w C :: M) h2 := S2.to
        exact same19S (by have := hq zs[k]; omega) S2.p1.sl S2.sl ⟨true, rfl, j9 h2 S2.tl.tl⟩
    · exact ifF (by simp; omega) (hK h S)

/-- Where it stands, behind a deed. -/
theorem cp_look {Rr : OA → Nat → Nat → OA → OA → Int → Heap → Prop} {i : Nat} {x6 : Addr} {o : Ar.X_Op19} (hC : C.length < 1000) (hla : 0 ≤ last ∧ last ≤ 1000)
    (hK : ∀ h', St (CnW s C last :: DcW w C :: M) h' → waybilllaw19_ConsPlays.j4 K Rr t.1 t.2.1 t.2.2 (some s) (some w) i h') (S : St (CnW s C last :: DcW w C :: Bx x6 (cOp9 o) :: M) h) :
    waybilllaw19_ConsPlays.j6 K Rr t.1 t.2.1 t.2.2 (some s) (some w) i x6 h := by
  have hq : ∀ q, (ofC C q).length ≤ C.length := fun q => List.length_filter_le _ _
  unfold waybilllaw19_ConsPlays.j6
  refine queues19 S.p1 (by omega) fun h1 a zs uz mz lz S1 => ⟨_, _, _, rfl, ?_⟩
  refine queuesConW S1.p2 (by omega) fun h2 b zs2 uz2 mz2 lz2 S2 => ⟨_, _, _, rfl, ?_⟩
  obtain rfl : zs2 = zs := str_ext uz2 uz fun q => by rw [mz2, mz]
  have S2 : St (Ow 1 b (zs2.map strV) :: Im 1 a (zs2.map strV) :: CnW s C last :: DcW w C :: Bx x6 (cOp9 o) :: M) h2 := S2.to
  refine sameTextsS (xs := zs2) (ys := zs2) (by omega) S2.sl (S2.tl.isl 1 a) ⟨_, rfl, ifF' (by simp) ?_⟩
  have S3 : St (Bx x6 (cOp9 o) :: CnW s C last :: DcW w C :: Im 1 a (zs2.map strV) :: M) h2 := S2.to
  have j7 : ∀ h', St (Im 1 a (zs2.map strV) :: CnW s C last :: DcW w C :: M) h' → waybilllaw19_ConsPlays.j7 K Rr t.1 t.2.1 t.2.2 (some s) (some w) i a.1 a.2.1 a.2.2 (!true) h' := fun h' S' => by
    unfold waybilllaw19_ConsPlays.j7
    exact ifF rfl ⟨zs2.length + 1, cp_rows hC hla (by omega) (fun h3 S4 => hK h3 S4.tl) _ 0 h' (by omega) (by omega) S'⟩
  have q0 : ∀ {L3 : List Asr} {h3 : Heap}, St (Bx x6 (cOp9 o) :: L3) h3 → hcell h3 (Addr.add (Addr.add x6 2) 3) = some (strV o.2.2.2.2.2.1) := fun S' => S'.cc 2 3 rfl
  refine ⟨_, q0 S3, ?_⟩
  with_reducible refine And.intro ?_ ⟨_, q0 S3, ?_⟩
  · refine ofConW (q := o.2.2.2.2.2.1) S3.p1 (by omega) (by omega) fun h3 c S4 => ⟨_, _, _, rfl, ?_⟩
    have S4 : St (Bx x6 (cOp9 o) :: DcW w C :: CnW s C last :: Ow 5 c ((ofC C o.2.2.2.2.2.1).flatMap cc) :: Im 1 a (zs2.map strV) :: M) h3 := S4.to
    refine ⟨_, q0 S4, ?_⟩
    refine of19 (q := o.2.2.2.2.2.1) S4.p1 (by omega) fun h4 d S5 => ⟨_, _, _, rfl, ?_⟩
    have S5 : St (Ow 5 d ((ofC C o.2.2.2.2.2.1).flatMap cc) :: Ow 5 c ((ofC C o.2.2.2.2.2.1).flatMap cc) :: Im 1 a (zs2.map strV) :: CnW s C last :: DcW w C :: M) h4 := S5.to
    exact same19S (by have := hq o.2.2.2.2.2.1; omega) S5.p1.sl S5.sl ⟨true, rfl, j7 h4 S5.tl.tl⟩
  · refine ofConW (q := o.2.2.2.2.2.1) S3.p1 (by omega) (by omega) fun h3 c S4 => ⟨_, _, _, rfl, ?_⟩
    have S4 : St (DcW w C :: CnW s C last :: Ow 5 c ((ofC C o.2.2.2.2.2.1).flatMap cc) :: Im 1 a (zs2.map strV) :: M) h3 := S4.to
    refine of19 (q := o.2.2.2.2.2.1) S4 (by omega) fun h4 d S5 => ⟨_, _, _, rfl, ?_⟩
    have S5 : St (Ow 5 d ((ofC C o.2.2.2.2.2.1).flatMap cc) :: Ow 5 c ((ofC C o.2.2.2.2.2.1).flatMap cc) :: Im 1 a (zs2.map strV) :: CnW s C last :: DcW w C :: M) h4 := S5.to
    exact same19S (by have := hq o.2.2.2.2.2.1; omega) S5.p1.sl S5.sl ⟨true, rfl, j7 h4 S5.tl.tl⟩

/-- How far is asked. -/
theorem cp_asked {Rr : OA → Nat → Nat → OA → OA → Int → Heap → Prop} {i : Nat} {x6 t7 t9 : Addr} {t10 : Bool} {o : Ar.X_Op19} {a : SV} {Q : List CN} {m : Nat} (hQ : Q.length < 1000) (hm : m ≤ Q.length) (hall : ∀ y ∈ Q.take m, dP o.2.1 y = false) (hat : ∀ y, Q[m]? = some y → dP o.2.1 y = true)
    (S : St (Bx x6 (cOp9 o) :: Ow 5 a (Q.flatMap cc) :: L) h) (hK : waybilllaw19_ConsPlays.j11 K Rr t.1 t.2.1 t.2.2 (some s) (some w) i x6 t7 t9 t10 a.1 a.2.1 a.2.2 m h) :
    ∀ (fuel k : Nat), m - k < fuel → k ≤ m → waybilllaw19_ConsPlays.L13 K Rr fuel t.1 t.2.1 t.2.2 (some s) (some w) i x6 t7 t9 t10 a.1 a.2.1 a.2.2 k h
  | 0, _, hf, _ => absurd hf (Nat.not_lt_zero _)
  | fuel + 1, k, hf, hk => by
    have el : a.2.1 = Q.length := by have := S.p1.ow.1; rw [cc_len] at this; omega
    unfold waybilllaw19_ConsPlays.L13
    by_cases hlt : k < Q.length
    · have hx : Q[k]? = some Q[k] := List.getElem?_eq_getElem hlt
      obtain ⟨p, ep, p0, p1, pc⟩ := ixF cc5 (by decide) S.p1.sl (i := (k : Int)) rfl hx
      have j14 : ∀ b : Bool, b = !dP o.2.1 Q[k] → waybilllaw19_ConsPlays.j14 K Rr (waybilllaw19_ConsPlays.L13 K Rr fuel) t.1 t.2.1 t.2.2 (some s) (some w) i x6 t7 t9 t10 a.1 a.2.1 a.2.2 k b h := fun b eb => by
        unfold waybilllaw19_ConsPlays.j14
        by_cases hkm : k < m
        · have := hall Q[k] (List.mem_take_iff_getElem.2 ⟨k, by omega, rfl⟩)
          rw [this] at eb
          subst eb
          refine ifT rfl ?_
          unfold bd
          rw [show IntKind.i64.wrap ((k : Int) + 1) = ((k + 1 : Nat) : Int) from wrapS (by omega) (by omega)]
          exact cp_asked hQ hm hall hat S hK fuel (k + 1) (by omega) (by omega)
        · have : k = m := by omega
          subst this
          rw [hat _ hx] at eb
          subst eb
          exact ifF rfl hK
      refine ifT (by simp; omega) ⟨p, ep, p0, p1, _, pc 2 _ rfl, ?_⟩
      cases hb : (Q[k].2.2.1 == []) with
      | true => exact ifF rfl (j14 false (by unfold dP; rw [hb]; rfl))
      | false =>
        have hne : Q[k].2.2.1 ≠ [] := by simpa using hb
        have := List.length_pos_iff.2 hne
        refine ifT rfl ⟨p, ep, p0, p1, _, pc 2 _ rfl, by omega, by omega, _, S.c 1 rfl, j14 _ ?_⟩
        unfold dP
        rw [hb, Bool.false_or, ← decide_not]
        exact decide_eq_decide.2 (by omega)
    · have : k = m := by omega
      subst this
      refine ifF (by simp; omega) ?_
      unfold waybilllaw19_ConsPlays.j14
      exact ifF rfl hK

set_option maxHeartbeats 4000000 in
theorem cp_loop (ht : t.2.1 = xs.length) (hw : ∀ x ∈ xs, Ar.q_Op19 x) [In (Im 7 t) L (xs.flatMap cOp9)] (hK : ∀ h', St L h' → K (.bool true) h') :
    ∀ (fuel i : Nat) (C : List CN) (last : Int) (h : Heap), xs.length - i < fuel → i ≤ xs.length → i ≤ 60 → C.length ≤ i → 0 ≤ last ∧ last ≤ i → St (CnW s C last :: DcW w C :: L) h → waybilllaw19_ConsPlays.L2 K fuel t.1 t.2.1 t.2.2 (some s) (some w) i h
  | 0, _, _, _, _, hf, _, _, _, _, _ => absurd hf (Nat.not_lt_zero _)
  | fuel + 1, i, C, last, h, hf, hi, h60, hC, hla, S => by
    have nd := CnW.nd S
    unfold waybilllaw19_ConsPlays.L2
    have jF : waybilllaw19_ConsPlays.j3 K (waybilllaw19_ConsPlays.L2 K fuel) t.1 t.2.1 t.2.2 (some s) (some w) i false h := by
      unfold waybilllaw19_ConsPlays.j3
      exact ifF rfl (hK h S.tl.tl)
    by_cases hlt : i < xs.length
    · refine ifT (by simp [ht]; omega) ?_
      by_cases h8 : i < 60
      · rw [show decide ((i : Int) < 60) = true by simp; omega]
        unfold waybilllaw19_ConsPlays.j3
        have hx : xs[i]? = some xs[i] := List.getElem?_eq_getElem hlt
        generalize hoe : xs[i] = o at hx
        refine ifT rfl (ixS cOp97 (by decide) (S.isl 7 t) rfl hx ?_)
        refine St.bd1 (cs := [.int .i64 0, .int .i64 0, .int .i64 0, .int .i64 0, .string (mkS []), .string (mkS []), .bool false]) S fun S1 => ⟨rfl, S1.wrA (ws := cOp9 o) rfl (cOp9_one _) fun h2 S => ⟨_, S.cc 2 2 rfl, ?_⟩⟩
        generalize top h = x6 at *
        have j4 : ∀ (C' : List CN) (last' : Int) (h' : Heap), C'.length ≤ i + 1 → 0 ≤ last' ∧ last' ≤ i + 1 → St (CnW s C' last' :: DcW w C' :: L) h' → waybilllaw19_ConsPlays.j4 K (waybilllaw19_ConsPlays.L2 K fuel) t.1 t.2.1 t.2.2 (some s) (some w) i h' := fun C' last' h' hl' hla' S' => by
          unfold waybilllaw19_ConsPlays.j4
          unfold bd
          rw [show IntKind.i64.wrap ((i : Int) + 1) = ((i + 1 : Nat) : Int) from wrapS (by omega) (by omega)]
          exact cp_loop ht hw hK fuel (i + 1) C' last' h' (by omega) (by omega) (by omega) hl' (by omega) S'
        have j6 : ∀ (C' : List CN) (last' : Int) (h' : Heap), C'.length ≤ i + 1 → 0 ≤ last' ∧ last' ≤ i + 1 → St (CnW s C' last' :: DcW w C' :: Bx x6 (cOp9 o) :: L) h' → waybilllaw19_ConsPlays.j6 K (waybilllaw19_ConsPlays.L2 K fuel) t.1 t.2.1 t.2.2 (some s) (some w) i x6 h' := fun C' last' h' hl' hla' S' =>
          cp_look (M := L) (o := o) (by omega) (by omega) (fun h3 S3 => j4 C' last' h3 hl' hla' S3) S'
        have hq : ∀ q, (ofC C q).length ≤ C.length := fun q => List.length_filter_le _ _
        have j10T : ∀ kd : Int, waybilllaw19_ConsPlays.j10 K (waybilllaw19_ConsPlays.L2 K fuel) t.1 t.2.1 t.2.2 (some s) (some w) i x6 kd true h2 := fun kd => by
          unfold waybilllaw19_ConsPlays.j10
          refine ifT rfl ?_
          refine St.bd1 (cs := [.slice none 0 0]) S fun S3 => ⟨_, S3.p1.cc 2 3 rfl, ?_⟩
          generalize top h2 = x7 at *
          generalize hqe : o.2.2.2.2.2.1 = q at *
          have S4 : St (askB x7 x6 (cOp9 o) [] :: CnW s C last :: DcW w C :: L) _ := askB.inn (s := (none, 0, 0)) (show St (Bx x7 [.slice none 0 0] :: Ow 5 (none, 0, 0) ([] : List Value) :: Bx x6 (cOp9 o) :: CnW s C last :: DcW w C :: L) _ from (S3.owNil 5).p1)
          have j12 : ∀ (t10 : Bool) (a : SV) (m : Nat) (C' : List CN) (last' : Int) (cv : CN) (h5 : Heap) (x9 : Addr), C'.length ≤ i + 1 → 0 ≤ last' ∧ last' ≤ i + 1 → (t10 = true → (ofC C q)[m]? = some cv ∧ C' = outC C (keyC cv) ++ [cv]) → (t10 = false → C' = C) →
              St (Bx x9 (cc cv) :: Ow 5 a ((ofC C q).flatMap cc) :: CnW s C' last' :: DcW w C :: Bx x6 (cOp9 o) :: L) h5 → waybilllaw19_ConsPlays.j12 K (waybilllaw19_ConsPlays.L2 K fuel) t.1 t.2.1 t.2.2 (some s) (some w) i x6 x9 t10 a.1 a.2.1 a.2.2 m (!true) h5 := fun t10 a m C' last' cv h5 x9 hl' hla' hyes hno S5 => by
            unfold waybilllaw19_ConsPlays.j12
            refine ifF rfl ?_
            cases t10 with
            | true =>
              obtain ⟨hx5, eC'⟩ := hyes rfl
              refine ifT rfl ?_
              obtain ⟨p, ep, p0, p1, cs, rd, e⟩ := ixS cc5 (by decide) S5.p1.sl (i := (m : Int)) rfl hx5 (R := fun cs => cs = cc cv) rfl
              subst e
              refine ⟨p, ep, p0, p1, S5.rdA (n := 5) rfl ⟨_, rd, conNeqS (a := cv) (b := cv) _ _ ⟨_, rfl, ifF (by simp) (S5.rdA (n := 5) rfl ?_)⟩⟩⟩
              refine given19 (x := cv) S5.p3 nd (by omega) fun h6 S6 => ⟨rfl, ?_⟩
              rw [← eC'] at S6
              exact j6 C' last' h6 hl' hla' S6.to
            | false =>
              have eC' := hno rfl
              subst eC'
              exact ifF rfl (j6 C' last' h5 hl' hla' S5.to)
          have rest : ∀ (t10 : Bool) (m : Nat) (C' : List CN) (last' : Int) (cv : CN) (h5 : Heap), m ≤ (ofC C q).length → (∀ y ∈ (ofC C q).take m, dP o.2.1 y = false) → (∀ y, (ofC C q)[m]? = some y → dP o.2.1 y = true) → t10 = decide (m < (ofC C q).length) → C'.length ≤ i + 1 → 0 ≤ last' ∧ last' ≤ i + 1 →
              (t10 = true → (ofC C q)[m]? = some cv ∧ C' = outC C (keyC cv) ++ [cv]) → (t10 = false → C' = C) → St (askB x7 x6 (cOp9 o) ((ofC C q).take (m + 1)) :: CnW s C' last' :: DcW w C :: L) h5 →
              bd (al h5 #[.int .i64 0, .int .i64 0, .string (mkS ([] : List UInt8)), .string (mkS ([] : List UInt8)), .bool false] T.api_Con) fun h72 => (cc cv).length = 5 ∧ ∃ h73, stC h72 (top h5) 0 (cc cv) = some h73 ∧ ∃ s74, hcell h73 (Addr.add (Addr.add x6 2) 3) = some (.string (mkS s74)) ∧ CallsH P F.waybillref16_Cons_Of [.pointer (some w), .string (mkS s74)] (fun v75 h76 => ∃ a77 a77l a77c, v75 = .slice a77 a77l a77c ∧ ∃ fuel101, waybilllaw19_ConsPlays.L13 K (waybilllaw19_ConsPlays.L2 K fuel) fuel101 t.1 t.2.1 t.2.2 (some s) (some w) i x6 x7 (top h5) t10 a77 a77l a77c 0 h76) h73 := fun t10 m C' last' cv h5 hm hall hat ht10 hl' hla' hyes hno S5 => by
            obtain ⟨sa, S5⟩ := askB.out S5
            refine St.bd1 (cs := zc) S5 fun S6 => ⟨rfl, S6.wrA (ws := cc cv) rfl (cc_one _) fun h7 S7 => ?_⟩
            generalize top h5 = x9 at *
            have S7 : St (Bx x6 (cOp9 o) :: DcW w C :: Bx x9 (cc cv) :: Bx x7 [.slice sa.1 sa.2.1 sa.2.2] :: Ow 5 sa (((ofC C q).take (m + 1)).flatMap cc) :: CnW s C' last' :: L) h7 := S7.to
            refine ⟨q, by rw [← hqe]; exact S7.cc 2 3 rfl, ?_⟩
            refine of19 (q := q) S7.p1 (by omega) fun h8 a S8 => ⟨_, _, _, rfl, m + 1, ?_⟩
            have S8 : St (Bx x6 (cOp9 o) :: Ow 5 a ((ofC C q).flatMap cc) :: Bx x7 [.slice sa.1 sa.2.1 sa.2.2] :: Ow 5 sa (((ofC C q).take (m + 1)).flatMap cc) :: Bx x9 (cc cv) :: CnW s C' last' :: DcW w C :: L) h8 := S8.to
            have hq1 := hq q
            have la : a.2.1 = (ofC C q).length := by have := S8.p1.ow.1; rw [cc_len] at this; omega
            refine cp_asked (o := o) (by omega) hm hall hat S8 ?_ _ 0 (by omega) (by omega)
            unfold waybilllaw19_ConsPlays.j11
            refine ifF' (by rw [la, ht10]; simp) ?_
            have emin : (if (((a.2.1 : Nat) : Int) : Int) < (IntKind.i64.wrap ((m : Int) + 1)) then ((a.2.1 : Nat) : Int) else (IntKind.i64.wrap ((m : Int) + 1))) = ((min (m + 1) (ofC C q).length : Nat) : Int) := by
              rw [show IntKind.i64.wrap ((m : Int) + 1) = ((m + 1 : Nat) : Int) from wrapS (by omega) (by omega), la]
              split <;> omega
            have hac : a.2.1 ≤ a.2.2 := S8.p1.ow.2.1
            have S9 : St (Bx x9 (cc cv) :: Ow 5 a ((ofC C q).flatMap cc) :: CnW s C' last' :: DcW w C :: Bx x6 (cOp9 o) :: L) h8 := S8.to
            have tk : (ofC C q).take (m + 1) = (ofC C q).take (min (m + 1) (ofC C q).length) := by
              rcases Nat.le_total (m + 1) (ofC C q).length with h | h
              · rw [Nat.min_eq_left h]
              · rw [Nat.min_eq_right h, List.take_of_length_le h, List.take_of_length_le (Nat.le_refl _)]
            have sm : CallsH P F.waybilllaw19_same [.slice sa.1 sa.2.1 sa.2.2, .slice (slA a.1 0 a.2.2 5) (Int.toNat ((min (m + 1) (ofC C q).length : Nat) : Int)) a.2.2] (fun v88 h89 => ∃ b90, v88 = .bool b90 ∧ waybilllaw19_ConsPlays.j12 K (waybilllaw19_ConsPlays.L2 K fuel) t.1 t.2.1 t.2.2 (some s) (some w) i x6 x9 t10 a.1 a.2.1 a.2.2 m (!b90) h89) h8 := by
              rw [slA_z, Int.toNat_natCast]
              refine same19S (a := sa) (b := (a.1, min (m + 1) (ofC C q).length, a.2.2)) (xs := (ofC C q).take (m + 1)) (by rw [List.length_take]; omega) S8.p3.sl ?_ ⟨true, rfl, j12 t10 a m C' last' cv h8 x9 hl' hla' hyes hno S9⟩
              rw [tk]
              exact S8.p1.sl.takeN cc5 (by decide) (Nat.min_le_right ..)
            rw [emin]
            with_reducible refine And.intro ?_ ?_
            · exact ⟨_, _, _, S8.p2.c 0 rfl, ⟨by omega, by omega⟩, sm⟩
            · exact ⟨⟨by omega, by omega⟩, _, _, _, S8.p2.c 0 rfl, sm⟩
          refine turnConK (q := q) (st := []) (ask_1 x7 x6 o) (fun k => by
            rw [foldl_app, List.nil_append, List.length_take]
            have := hq q; omega) S4 (by omega) (by omega) (fun hno h5 S5 => ⟨zc, false, rfl, ?_⟩) fun k x hx5 hd hno h5 S5 => ⟨cc x, true, rfl, ?_⟩
          · rw [foldl_app, List.nil_append] at S5
            refine rest false (ofC C q).length C last (0, 0, [], [], false) h5 (Nat.le_refl _) (fun y hy => hno y (List.mem_of_mem_take hy)) (fun y e => by rw [List.getElem?_eq_none (Nat.le_refl _)] at e; cases e) (by simp) (by omega) (by omega) (fun e => by cases e) (fun _ => rfl) ?_
            rw [List.take_of_length_le (by omega)]
            exact S5
          · rw [foldl_app, List.nil_append] at S5
            have hk : k < (ofC C q).length := (List.getElem?_eq_some_iff.1 hx5).1
            have hlo : (outC C (keyC x)).length ≤ C.length := List.length_filter_le _ _
            refine rest true k (outC C (keyC x) ++ [x]) (last + 1) x h5 (by omega) hno (fun y e => by rw [hx5] at e; cases e; exact hd) (by simp [hk]) (by rw [List.length_append, List.length_singleton]; omega) (by omega) (fun _ => ⟨hx5, rfl⟩) (fun e => by cases e) S5
        have j10F : ∀ kd : Int, waybilllaw19_ConsPlays.j10 K (waybilllaw19_ConsPlays.L2 K fuel) t.1 t.2.1 t.2.2 (some s) (some w) i x6 kd false h2 := fun kd => by
          obtain ⟨o1, o2, cn, ch, tg, q, na⟩ := o
          unfold waybilllaw19_ConsPlays.j10
          refine ifF rfl ?_
          unfold bd
          by_cases k6 : kd = 6
          · refine ifT (by simp [k6]) ?_
            have hlo : (outC C (cn, ch, tg)).length ≤ C.length := List.length_filter_le _ _
            have fin : ∀ h', St (DcW w (outC C (cn, ch, tg)) :: CnW s (outC C (cn, ch, tg)) last :: Bx x6 (cOp9 (o1, o2, cn, ch, tg, q, na)) :: L) h' → waybilllaw19_ConsPlays.j15 K (waybilllaw19_ConsPlays.L2 K fuel) t.1 t.2.1 t.2.2 (some s) (some w) i x6 (!(decide ((cn, ch, tg) ∈ C.map keyC) == decide ((cn, ch, tg) ∈ C.map keyC))) h' := fun h' S' => by
              unfold waybilllaw19_ConsPlays.j15
              exact ifF (by simp) (j6 (outC C (cn, ch, tg)) last h' (by omega) (by omega) S'.p1)
            repeat' first
              | with_reducible refine And.intro ?_ ?_
              | with_reducible refine ⟨_, S.rcc x6 2 0 rfl, ?_⟩
              | with_reducible refine ⟨_, S.rcc x6 2 1 rfl, ?_⟩
              | with_reducible refine ⟨_, S.rcc x6 2 2 rfl, ?_⟩
              | with_reducible refine dropTB (g := (cn, ch, tg)) (C := C) (last := last) S fun h S => ⟨_, rfl, ?_⟩
              | (with_reducible refine drop19B (g := (cn, ch, tg)) S w nd ?_ fun h S => ⟨_, rfl, ?_⟩)
              | exact fin _ S.to
              | omega
          · refine ifF (by simp [k6]) ?_
            by_cases k7 : kd = 7
            · have hlo : (C.filter fun c => !(c.1 == cn && c.2.1 == ch)).length ≤ C.length := List.length_filter_le _ _
              refine ifT (by simp [k7]) ⟨_, S.cc 2 0 rfl, _, S.cc 2 1 rfl, ?_⟩
              refine dropChanW (x := cn) (y := ch) S.p1 (by omega) (by omega) fun h3 S3 => ⟨rfl, _, S3.p1.cc 2 0 rfl, _, S3.p1.cc 2 1 rfl, ?_⟩
              refine dropChan19 (x := cn) (y := ch) S3.p2 (by omega) fun h4 S4 => ⟨rfl, ?_⟩
              exact j6 _ last h4 (Nat.le_trans hlo (by omega)) (by omega) S4.p1
            · refine ifF (by simp [k7]) ?_
              by_cases k8 : kd = 8
              · have hlo : (C.filter fun c => !(quC c == q)).length ≤ C.length := List.length_filter_le _ _
                refine ifT (by simp [k8]) ⟨_, S.cc 2 3 rfl, ?_⟩
                refine dropQueueW (q := q) S.p1 (by omega) (by omega) fun h3 S3 => ⟨rfl, _, S3.p1.cc 2 3 rfl, ?_⟩
                refine dropQueue19 (q := q) S3.p2 (by omega) fun h4 S4 => ⟨rfl, ?_⟩
                exact j6 _ last h4 (Nat.le_trans hlo (by omega)) (by omega) S4.p1
              · refine ifF (by simp [k8]) ?_
                have rd : ∀ {h3 : Heap} {L3 : List Asr}, St (Bx x6 (cOp9 (o1, o2, cn, ch, tg, q, na)) :: L3) h3 → rdC h3 (Addr.add x6 2) 0 5 = some (cc (cn, ch, tg, q, na)) := fun S3 => (((S3.mem.1.drop 2).take 5).rd rfl)
                have add : ∀ {h3 : Heap} {K3 : KT}, St (Bx x6 (cOp9 (o1, o2, cn, ch, tg, q, na)) :: CnW s C last :: DcW w C :: L) h3 → (∀ (h4 : Heap) (b : Bool) (C' : List CN) (last' : Int), C'.length ≤ i + 1 → 0 ≤ last' ∧ last' ≤ i + 1 → (∀ {h5 : Heap} {K5 : KT} {M : List Asr}, St (DcW w C :: M) h5 → (∀ h6, St (DcW w C' :: M) h6 → K5 (.bool b) h6) → CallsH P F.waybillref16_Cons_Add [.pointer (some w), .agg (List.toArray (cc (cn, ch, tg, q, na)))] K5 h5) → St (Bx x6 (cOp9 (o1, o2, cn, ch, tg, q, na)) :: CnW s C' last' :: DcW w C :: L) h4 → K3 (.bool b) h4) →
                    CallsH P F.cons_Cons_Add [.pointer (some s), .agg (List.toArray (cc (cn, ch, tg, q, na)))] K3 h3 := fun {h3 K3} S3 hk => by
                  refine addConW (c := (cn, ch, tg, q, na)) S3.p1 (by omega) (fun hin h4 S4 => ?_) fun hnot h4 S4 => ?_
                  · refine hk h4 false C last (by omega) (by omega) (fun {h5 K5 M} S5 hk5 => ?_) S4.p1
                    exact add19 (x := (cn, ch, tg, q, na)) S5 (by omega) (fun _ h6 S6 => hk5 h6 S6) fun hnot => absurd hin hnot
                  · refine hk h4 true (C ++ [(cn, ch, tg, q, na)]) (last + 1) (by rw [List.length_append, List.length_singleton]; omega) (by omega) (fun {h5 K5 M} S5 hk5 => ?_) S4.p1
                    exact add19 (x := (cn, ch, tg, q, na)) S5 (by omega) (fun hin => absurd hin hnot) fun _ h6 S6 => hk5 h6 S6
                have j16 : ∀ (b : Bool) (C' : List CN) (last' : Int) (h' : Heap), C'.length ≤ i + 1 → 0 ≤ last' ∧ last' ≤ i + 1 → St (CnW s C' last' :: DcW w C' :: Bx x6 (cOp9 (o1, o2, cn, ch, tg, q, na)) :: L) h' → waybilllaw19_ConsPlays.j16 K (waybilllaw19_ConsPlays.L2 K fuel) t.1 t.2.1 t.2.2 (some s) (some w) i x6 (!(b == b)) h' := fun b C' last' h' a1 a2 S' => by
                  unfold waybilllaw19_ConsPlays.j16
                  exact ifF (by simp) (j6 C' last' h' a1 a2 S')
                refine ⟨_, rd S, ?_⟩
                with_reducible refine And.intro ?_ ⟨_, rd S, ?_⟩
                · refine add S fun h4 b C' last' a1 a2 doc S4 => ⟨_, rfl, _, rd S4, ?_⟩
                  exact doc S4.p2 fun h6 S6 => ⟨_, rfl, j16 b C' last' h6 a1 a2 S6.to⟩
                · refine add S fun h4 b C' last' a1 a2 doc S4 => ⟨_, rfl, ?_⟩
                  exact doc S4.p2 fun h6 S6 => ⟨_, rfl, j16 b C' last' h6 a1 a2 S6.to⟩
        have j5 : ∀ b : Bool, waybilllaw19_ConsPlays.j5 K (waybilllaw19_ConsPlays.L2 K fuel) t.1 t.2.1 t.2.2 (some s) (some w) i x6 b h2 := fun b => by
          unfold waybilllaw19_ConsPlays.j5
          cases b with
          | true => exact ifT rfl (hK h2 S.tl.tl.tl)
          | false =>
            refine ifF rfl ⟨_, S.c 0 rfl, ?_⟩
            unfold bd
            by_cases k3 : o.1 = 3
            · exact ifT (by simp [k3]) (by rw [show (o.1 == 3) = true by simp [k3]]; exact j10T _)
            · refine ifF (by simp [k3]) ?_
              by_cases k4 : o.1 = 4
              · exact ifT (by simp [k4]) (by rw [show (o.1 == 4) = true by simp [k4]]; exact j10T _)
              · refine ifF (by simp [k4]) ?_
                by_cases k5 : o.1 = 5
                · rw [show (o.1 == 5) = true by simp [k5]]; exact j10T _
                · rw [show (o.1 == 5) = false by simp [k5]]; exact j10F _
        cases hb : decide (((List.length o.2.2.2.2.1 : Nat) : Int) > 60) with
        | true => exact ifT' rfl (j5 true)
        | false => exact ifF' rfl ⟨_, S.cc 2 3 rfl, j5 _⟩
      · rw [show decide ((i : Int) < 60) = false by simp; omega]
        exact jF
    · exact ifF (by simp [ht]; omega) jF

theorem ConsPlays.law {h : Heap} (s : SV) (xs : List Ar.X_Op19) (sl : Sl 7 h s.1 s.2.1 (xs.flatMap Ar.c_Op19)) (le : s.2.1 ≤ s.2.2) (mx : s.2.2 ≤ maxLen) (wx : ∀ x ∈ xs, Ar.q_Op19 x) :
    CallsH P F.waybilllaw19_ConsPlays [s.v] (fun v h' => v = .bool true ∧ Kept h h') h := by
  refine waybilllaw19_ConsPlays.ok ?_
  unfold waybilllaw19_ConsPlays.p0
  have ls : s.2.1 = xs.length := by have := sl.1; rw [flat_length cOp97] at this; omega
  have S0 : St (Im 7 s (xs.flatMap cOp9) :: [Old h]) h := (St.old h).imOld (List.mem_cons_self ..) sl le
  refine newConW S0 fun h1 a S1 => ⟨_, rfl, ?_⟩
  refine St.bd1 (cs := [.slice none 0 0]) S1 fun S2 => ifF' rfl ?_
  have S3 : St (DcW (top h1) [] :: CnW a [] 0 :: Im 7 s (xs.flatMap cOp9) :: [Old h]) (al h1 [Value.slice none 0 0].toArray T.waybillref16_Cons) := DcW.inn (s := (none, 0, 0)) (S2.imNil 5 0).p1
  refine awake19S S3 fun h3 S4 => ⟨_, rfl, ?_⟩
  unfold waybilllaw19_ConsPlays.j1
  exact ifF rfl ⟨xs.length + 1, cp_loop (L := Im 7 s (xs.flatMap cOp9) :: [Old h]) ls wx (fun h' S' => ⟨rfl, S'.keptOld (List.mem_cons_of_mem _ (List.mem_cons_self ..))⟩) _ 0 [] 0 h3 (by omega) (by omega) (by omega) (by simp) (by omega) S4.p1⟩
end
end Go.Proofs.Ytechpnlbkkfplaa.Pr

/- The document's line: one row of entries. -/
import Derived.Test.YtechpnlbkkfplaaLiftD
import Derived.Test.YtechpnlbkkfplaaLineW
import Derived.Test.YtechpnlbkkfplaaLawsC
import Derived.Test.YtechpnlbkkfplaaPrRef16
set_option linter.unusedVariables false
set_option linter.unusedSimpArgs false
namespace Go.Proofs.Ytechpnlbkkfplaa.Pr
open Go Go.Lift Go.Proofs

/-- An entry of the document: its number; marked; held. -/
abbrev dEnt (x : Int × (Bool × Bool)) : List Value := [.int .u64 x.1, .bool x.2.1, .bool x.2.2]
theorem dEnt3 : ∀ x, (dEnt x).length = 3 := fun _ => rfl
theorem dEnt_one : ∀ x, ∀ w ∈ dEnt x, one w = true := fun x => by simp [one]
theorem dEnt_len (W : LRow) : (W.flatMap dEnt).length = W.length * 3 := flat_length dEnt3 W
theorem sl_dent : SlT P T.sl_waybillref16_Ent T.waybillref16_Ent 3 16 [.int .u64 0, .bool false, .bool false] := slT (by kernel_rfl) (by kernel_rfl)
theorem u_sld : P.underlying T.sl_waybillref16_Ent = some (.slice T.waybillref16_Ent) := by kernel_rfl
theorem bld_dent' : (fun a b c : Value => Instr.fill (Lift.places P (P.underlying T.sl_waybillref16_Ent)) (zrow (zcl P T.waybillref16_Ent).toList 1 (P.cellsOf T.waybillref16_Ent)).toArray [(0, .agg (List.toArray [a, b, c]))]) = fun a b c => some (List.toArray [a, b, c]) := by kernel_rfl
theorem bld_dent (x : Int × (Bool × Bool)) : bldS P T.sl_waybillref16_Ent T.waybillref16_Ent 1 [(0, .agg (List.toArray (dEnt x)))] (dEnt x) := congrFun (congrFun (congrFun bld_dent' _) _) _

theorem sl_u64r : SlT P T.sl_uint64 T.uint64 1 8 [.int .u64 0] := slT (by kernel_rfl) (by kernel_rfl)
theorem u_slur : P.underlying T.sl_uint64 = some (.slice T.uint64) := by kernel_rfl
/-- The document's line, that stands for a row. -/
abbrev DlL (w : Addr) (s : SV) (W : LRow) (L : List Asr) : List Asr := Bx w [.slice s.1 s.2.1 s.2.2] :: Im 3 s (W.flatMap dEnt) :: L
def DlW (w : Addr) (W : LRow) : Asr := ex fun s : SV => stars [Bx w [.slice s.1 s.2.1 s.2.2], Im 3 s (W.flatMap dEnt)]

/-- Where a number is, or would be. -/
def posL : LRow → Int → Nat
  | [], _ => 0
  | x :: r, k => if x.1 < k then posL r k + 1 else 0
theorem posL_le : ∀ (W : LRow) (k : Int), posL W k ≤ W.length
  | [], _ => Nat.le_refl _
  | x :: r, k => by unfold posL; split <;> simp [posL_le r k]
theorem posL_lt : ∀ {W : LRow} {k : Int} {j : Nat} {x}, j < posL W k → W[j]? = some x → x.1 < k
  | [], _, _, _, h, _ => by simp [posL] at h
  | y :: r, k, 0, x, h, e => by
    unfold posL at h
    split at h
    · rename_i h2; cases e; exact h2
    · omega
  | y :: r, k, j + 1, x, h, e => by
    unfold posL at h
    split at h
    · exact posL_lt (W := r) (j := j) (by omega) (by simpa using e)
    · omega
theorem posL_at : ∀ {W : LRow} {k : Int} {x}, W[posL W k]? = some x → ¬ x.1 < k
  | [], _, _, e => by simp [posL] at e
  | y :: r, k, x, e => by
    unfold posL at e
    split at e
    · exact posL_at (W := r) (by simpa using e)
    · rename_i h2; simp at e; subst e; exact h2
/-- Is it there? -/
theorem posL_get {W : LRow} (u : Up W) (k : Int) : get? W k = (W[posL W k]?).bind fun x => if x.1 = k then some x.2 else none := by
  cases h : W[posL W k]? with
  | none =>
    refine get?_none.2 fun hm => ?_
    obtain ⟨x, hx, rfl⟩ := List.mem_map.1 hm
    obtain ⟨j, hj, rfl⟩ := List.mem_iff_getElem.1 hx
    have := List.getElem?_eq_none_iff.1 h
    have := posL_lt (show j < posL W W[j].1 by omega) (List.getElem?_eq_getElem hj)
    omega
  | some x =>
    simp only [Option.bind_some]
    by_cases e : x.1 = k
    · rw [if_pos e]
      exact (get?_iff u.nodup).2 (by rw [← e]; exact List.mem_of_getElem? h)
    · rw [if_neg e]
      refine get?_none.2 fun hm => ?_
      obtain ⟨y, hy, ey⟩ := List.mem_map.1 hm
      obtain ⟨j, hj, rfl⟩ := List.mem_iff_getElem.1 hy
      have hp := (List.getElem?_eq_some_iff.1 h).1
      have e2 := (List.getElem?_eq_some_iff.1 h).2
      have h3 := posL_at h
      rcases Nat.lt_trichotomy j (posL W k) with h4 | h4 | h4
      · have := posL_lt h4 (List.getElem?_eq_getElem hj); omega
      · subst h4; rw [e2] at ey; exact e ey
      · have := List.pairwise_iff_getElem.1 u (posL W k) j hp hj h4
        rw [e2] at this; omega
theorem posL_ins (W : LRow) (k : Int) (v : Bool × Bool) : ins W k v = W.take (posL W k) ++ (k, v) :: W.drop (posL W k) :=
  ins_at (fun j x hj hx => posL_lt hj hx) (fun x hx => posL_at hx) (posL_le W k)
theorem posL_upd {W : LRow} {k : Int} {x} (h : W[posL W k]? = some x) (e : x.1 = k) (v : Bool × Bool) : W.set (posL W k) (k, v) = upd W k v := by
  induction W with
  | nil => simp [posL] at h
  | cons y r ih =>
    unfold posL at h ⊢
    unfold upd
    split at h
    · rename_i h2
      rw [if_pos h2, if_neg (by omega : ¬ k = y.1), List.set_cons_succ, ih (by simpa using h)]
    · rename_i h2
      simp at h; subst h
      rw [if_neg h2, if_pos e.symm]; rfl
theorem posL_del {W : LRow} {k : Int} {x} (h : W[posL W k]? = some x) (e : x.1 = k) : W.take (posL W k) ++ W.drop (posL W k + 1) = del W k := by
  induction W with
  | nil => simp [posL] at h
  | cons y r ih =>
    unfold posL at h ⊢
    unfold del
    split at h
    · rename_i h2
      rw [if_pos h2, if_neg (by omega : ¬ k = y.1), List.take_succ_cons, List.drop_succ_cons, List.cons_append, ih (by simpa using h)]
    · rename_i h2
      simp at h; subst h
      rw [if_neg h2, if_pos e.symm]; rfl

section
variable {K : KT} {L : List Asr} {h : Heap} {w : Addr} {W : LRow} {s : SV}

theorem DlW.out (S : St (DlW w W :: L) h) : ∃ s, St (DlL w s W L) h := by
  obtain ⟨s, S1⟩ := St.ex S
  exact ⟨s, S1.open⟩
theorem DlW.inn (S : St (DlL w s W L) h) : St (DlW w W :: L) h := St.ex' s (St.close (As := [Bx w [.slice s.1 s.2.1 s.2.2], Im 3 s (W.flatMap dEnt)]) S)
theorem DlL.len (S : St (DlL w s W L) h) : s.2.1 = W.length ∧ s.2.1 ≤ s.2.2 := by
  have := S.isl 3 s
  have h1 := this.1
  rw [dEnt_len] at h1
  exact ⟨by omega, S.ile 3 s⟩
theorem dEnt_get {k : Nat} {x} (hx : W[k]? = some x) (S : St (DlL w s W L) h) : ∃ p, s.1 = some p ∧ (0 : Int) ≤ (k : Int) ∧ (k : Int) < ((s.2.1 : Nat) : Int) ∧ (∀ i v, (dEnt x)[i]? = some v → hcell h (Addr.add (Addr.add p (Int.toNat (k : Int) * 3)) i) = some v) :=
  ixF dEnt3 (by decide) (S.isl 3 s) rfl hx

theorem find_loop16 {k : Int} (S : St (DlL w s W L) h) (hl : W.length < 1099511627776) (hK : K (.tuple #[.int .i64 (posL W k : Nat), .bool ((W[posL W k]?).any fun x => x.1 == k)]) h) :
    ∀ (fuel i : Nat), posL W k - i < fuel → i ≤ posL W k → waybillref16_Line_find.L2 K fuel (some w) k i h
  | 0, _, hf, _ => absurd hf (Nat.not_lt_zero _)
  | fuel + 1, i, hf, hi => by
    obtain ⟨e1, e2⟩ := DlL.len S
    have hp := posL_le W k
    unfold waybillref16_Line_find.L2
    refine ⟨w, rfl, _, _, _, S.c 0 rfl, ?_⟩
    have j1 : i = posL W k → waybillref16_Line_find.j1 K (some w) k i h := fun ei => by
      unfold waybillref16_Line_find.j1
      rw [← ei] at hK
      refine ⟨w, rfl, _, _, _, S.c 0 rfl, ?_⟩
      by_cases hlt : i < W.length
      · obtain ⟨p, ep, p0, p1, pc⟩ := dEnt_get (List.getElem?_eq_getElem hlt) S
        rw [List.getElem?_eq_getElem hlt] at hK
        exact ifT (by simp; omega) ⟨w, rfl, _, _, _, S.c 0 rfl, p, ep, p0, p1, _, pc 0 _ rfl, hK⟩
      · rw [List.getElem?_eq_none (by omega)] at hK
        exact ifF (by simp; omega) hK
    by_cases hlt : i < W.length
    · obtain ⟨p, ep, p0, p1, pc⟩ := dEnt_get (List.getElem?_eq_getElem hlt) S
      refine ifT (by simp; omega) ⟨w, rfl, _, _, _, S.c 0 rfl, p, ep, p0, p1, _, pc 0 _ rfl, ?_⟩
      unfold waybillref16_Line_find.j3
      by_cases hi2 : i < posL W k
      · have := posL_lt hi2 (List.getElem?_eq_getElem hlt)
        refine ifT (by simpa using this) ?_
        unfold bd
        rw [show IntKind.i64.wrap ((i : Int) + 1) = ((i + 1 : Nat) : Int) from wrapS (by omega) (by omega)]
        exact find_loop16 S hl hK fuel (i + 1) (by omega) (by omega)
      · have ei : i = posL W k := by omega
        have : ¬ W[i].1 < k := posL_at (by rw [← ei]; exact List.getElem?_eq_getElem hlt)
        exact ifF (by simpa using this) (j1 ei)
    · refine ifF (by simp; omega) ?_
      unfold waybillref16_Line_find.j3
      exact ifF rfl (j1 (by omega))
theorem find16 {k : Int} (S : St (DlL w s W L) h) (hl : W.length < 1099511627776) (hK : K (.tuple #[.int .i64 (posL W k : Nat), .bool ((W[posL W k]?).any fun x => x.1 == k)]) h) : CallsH P F.waybillref16_Line_find [.pointer (some w), .int .u64 k] K h := by
  refine waybillref16_Line_find.ok ?_
  unfold waybillref16_Line_find.p0
  exact ⟨_, find_loop16 S hl hK (posL W k + 1) 0 (by omega) (by omega)⟩

theorem set16 {k : Nat} {x : Int × (Bool × Bool)} (S : St (DlW w W :: L) h) (hl : W.length < 1099511627776) (hk : k < W.length) (hK : ∀ h', St (DlW w (W.set k x) :: L) h' → K (.tuple #[]) h') : CallsH P F.waybillref16_Line_set [.pointer (some w), .int .i64 k, .agg (List.toArray (dEnt x))] K h := by
  obtain ⟨s, S⟩ := DlW.out S
  obtain ⟨e1, e2⟩ := DlL.len S
  refine waybillref16_Line_set.ok ?_
  unfold waybillref16_Line_set.p0
  refine S.bd1 fun S => S.bd0 (sz := 3) fun S => ⟨w, rfl, _, _, _, S.rc w 0 rfl, ?_⟩
  refine St.appW dEnt3 dEnt_one (by decide) (by decide) sl_dent rfl u_sld (fun k e => by cases e) S (q := s.1) (l' := s.2.1) (c' := s.2.2) (xs := W) (by omega) fun p c h1 S => ⟨_, _, _, rfl, _, S.rall (top h) 3 rfl, ?_⟩
  rw [List.nil_append] at S
  obtain ⟨a, a1, a2, a3, h4, a4, S4⟩ := S.owSetN dEnt3 dEnt_one (by decide) (i := (k : Int)) (n := k) rfl hk x
  refine ⟨a, a1, a2, a3, rfl, h4, a4, w, rfl, ?_⟩
  refine S4.put1 w 0 (by simp) rfl fun h5 S5 => hK h5 (DlW.inn (s := (p, 0 + s.2.1, c)) ?_)
  exact (show St (Bx w [.slice p (0 + s.2.1) c] :: Ow 3 (p, 0 + s.2.1, c) ((W.set k x).flatMap dEnt) :: Bx (top h) (dEnt x) :: Im 3 s (W.flatMap dEnt) :: L) h5 from S5).p2.tl.p2.tl.p1.im.p1

theorem fin16 {L0 R R' : List Asr} {W' : LRow} (S : St L0 h) (w : Addr) {old : Value} [Has (Bx w) L0 [old] R] {p : OA} {l c : Nat} {vs : List Value} [H : Has (Ow 3 (p, l, c)) R vs R'] [HL : Lift.Sub L R'] {Q : Heap → Prop} (hv : vs = W'.flatMap dEnt) (hK : ∀ h', St (DlW w W' :: L) h' → Q h') :
    ∃ h', stC h (Addr.add w 0) 0 [.slice p l c] = some h' ∧ Q h' :=
  S.put1 w 0 (by simp) rfl fun h' S' => hK h' (by
    have S1 : St (Bx w [.slice p l c] :: Ow 3 (p, l, c) vs :: R') h' := St.perm S' (List.Perm.cons _ H.perm)
    rw [hv] at S1
    have S2 : St (DlW w W' :: R') h' := DlW.inn (s := (p, l, c)) S1.p1.im.p1
    obtain ⟨D, hD⟩ := HL.ex
    exact St.left (L := DlW w W' :: L) (D := D) (S2.perm (List.Perm.cons _ hD)))

section
variable {R R' : List Asr} {p q : OA} {l c l' c' k : Nat} {ys : List Value} {X : LRow} {ty : TypeId}
theorem dAppP (S : St L h) [Has (Ow 3 (p, l, c)) L ys R] [In (Im 3 (q, l', c')) L (X.flatMap dEnt)] (hk : k ≤ X.length) (hx : l + X.length ≤ 1099511627776) (hK : ∀ p' c2 h', St (Ow 3 (p', l + k, c2) (ys ++ (X.take k).flatMap dEnt) :: R) h' → K (.slice p' (l + k) c2) h') :
    SemH P (Builtin.append_ #[T.sl_waybillref16_Ent, T.sl_waybillref16_Ent] ty #[.slice p l c, .slice (slA q 0 c' 3) k c']) K h :=
  St.appP (l' := l') dEnt3 dEnt_one (by decide) (by decide) sl_dent rfl u_sld (fun k e => by cases e) S hk hx hK
theorem dAppT (S : St L h) [Has (Ow 3 (p, l, c)) L ys R] [In (Im 3 (q, l', c')) L (X.flatMap dEnt)] (hk : k ≤ X.length) (hx : l + X.length ≤ 1099511627776) (hK : ∀ p' c2 h', St (Ow 3 (p', l + (l' - k), c2) (ys ++ (X.drop k).flatMap dEnt) :: R) h' → K (.slice p' (l + (l' - k)) c2) h') :
    SemH P (Builtin.append_ #[T.sl_waybillref16_Ent, T.sl_waybillref16_Ent] ty #[.slice p l c, .slice (slA q k c' 3) (l' - k) (c' - k)]) K h :=
  St.appT dEnt3 dEnt_one (by decide) (by decide) sl_dent rfl u_sld (fun k e => by cases e) S hk hx hK
theorem dAppB (S : St L h) [Has (Ow 3 (p, l, c)) L ys R] {a : Addr} {x : Int × (Bool × Bool)} [Has (Bx a) L (dEnt x) R'] (hx : l ≤ 1099511627776) (hK : ∀ p' c2 h', St (Ow 3 (p', l + 1, c2) (ys ++ dEnt x) :: R) h' → K (.slice p' (l + 1) c2) h') :
    SemH P (Builtin.append_ #[T.sl_waybillref16_Ent, T.sl_waybillref16_Ent] ty #[.slice p l c, .slice (some a) 1 1]) K h :=
  St.appB dEnt_one (by decide) sl_dent rfl u_sld (fun k e => by cases e) S dEnt3 hx hK
end
set_option maxHeartbeats 4000000 in
theorem put16 {k : Int} {a : Bool} (S : St (DlW w W :: L) h) (u : Up W) (hl : W.length < 1000000) (hF : ((get? W k).isSome = true ∨ k = 0) → ∀ h', St (DlW w W :: L) h' → K (.bool false) h')
    (hT : get? W k = none → k ≠ 0 → ∀ h', St (DlW w (ins W k (a, false)) :: L) h' → K (.bool true) h') : CallsH P F.waybillref16_Line_Put [.pointer (some w), .int .u64 k, .bool a] K h := by
  have S0 := S
  obtain ⟨s, S⟩ := DlW.out S
  obtain ⟨e1, e2⟩ := DlL.len S
  have hp := posL_le W k
  refine waybillref16_Line_Put.ok ?_
  unfold waybillref16_Line_Put.p0
  have eg := posL_get u k
  refine find16 S (by omega) ⟨_, _, rfl, ?_⟩
  cases hb : ((W[posL W k]?).any fun x => x.1 == k) with
  | true =>
    refine ifT' rfl ?_
    unfold waybillref16_Line_Put.j1
    refine ifT rfl (hF (.inl ?_) h S0)
    cases hx : W[posL W k]? with
    | none => rw [hx] at hb; cases hb
    | some x =>
      rw [hx] at hb eg
      rw [eg, Option.bind_some, if_pos (by simpa using hb)]; rfl
  | false =>
    refine ifF' rfl ?_
    have hn : get? W k = none := by
      rw [eg]
      cases hx : W[posL W k]? with
      | none => rfl
      | some x => rw [hx] at hb; rw [Option.bind_some, if_neg (by simpa using hb)]
    unfold waybillref16_Line_Put.j1
    by_cases h0 : k = 0
    · exact ifT (by simp [h0]) (hF (.inr h0) h S0)
    · refine ifF (by simp [h0]) ?_
      have fin : ∀ h', St (DlW w (ins W k (a, false)) :: L) h' → K (.bool true) h' := hT hn h0
      have ev : ([] ++ (W.take (posL W k)).flatMap dEnt ++ dEnt (k, (a, false)) ++ (W.drop (posL W k)).flatMap dEnt) = (ins W k (a, false)).flatMap dEnt := by
        rw [posL_ins, List.flatMap_append, List.flatMap_cons]; simp
      simp only [Int.toNat_natCast]
      repeat' first
        | with_reducible refine And.intro ?_ ?_
        | with_reducible refine ⟨w, rfl, ?_⟩
        | with_reducible refine St.bd0 (sz := 3) S fun S => ?_
        | with_reducible refine ⟨_, _, _, S.rc w 0 rfl, ?_⟩
        | with_reducible refine ⟨_, bld_dent (k, (a, false)), ?_⟩
        | with_reducible refine St.bd1 S fun S => ?_
        | (with_reducible refine fin16 S w ?_ fin; exact ev)
        | with_reducible refine dAppP (q := s.1) (l' := s.2.1) (c' := s.2.2) (X := W) S hp ?_ fun p c h S => ⟨_, _, _, rfl, ?_⟩
        | with_reducible refine dAppT (q := s.1) (l' := s.2.1) (c' := s.2.2) (X := W) S hp ?_ fun p c h S => ⟨_, _, _, rfl, ?_⟩
        | with_reducible refine dAppB (x := (k, (a, false))) S ?_ fun p c h S => ⟨_, _, _, rfl, ?_⟩
        | omega
        | exact ⟨by omega, by omega⟩

set_option maxHeartbeats 4000000 in
theorem drop16 {k : Int} (S : St (DlW w W :: L) h) (u : Up W) (hl : W.length < 1000000) (hK : ∀ h', St (DlW w (del W k) :: L) h' → K (.bool (get? W k).isSome) h') : CallsH P F.waybillref16_Line_Drop [.pointer (some w), .int .u64 k] K h := by
  have S0 := S
  obtain ⟨s, S⟩ := DlW.out S
  obtain ⟨e1, e2⟩ := DlL.len S
  refine waybillref16_Line_Drop.ok ?_
  unfold waybillref16_Line_Drop.p0
  have eg := posL_get u k
  refine find16 S (by omega) ⟨_, _, rfl, ?_⟩
  cases hb : ((W[posL W k]?).any fun x => x.1 == k) with
  | false =>
    have hn : get? W k = none := by
      rw [eg]
      cases hx : W[posL W k]? with
      | none => rfl
      | some x => rw [hx] at hb; rw [Option.bind_some, if_neg (by simpa using hb)]
    refine ifF rfl ?_
    have := hK h (by rw [del_none (get?_none.1 hn)]; exact S0)
    rw [hn] at this
    exact this
  | true =>
    cases hx : W[posL W k]? with
    | none => rw [hx] at hb; cases hb
    | some x =>
      rw [hx] at hb eg
      have hb : x.1 = k := by simpa using hb
      rw [Option.bind_some, if_pos hb] at eg
      have hp : posL W k < W.length := (List.getElem?_eq_some_iff.1 hx).1
      have hp0 := posL_le W k
      have hp1 : posL W k + 1 ≤ W.length := hp
      have fin : ∀ h', St (DlW w (del W k) :: L) h' → K (.bool true) h' := fun h' S' => by have := hK h' S'; rw [eg] at this; exact this
      have ev : ([] ++ (W.take (posL W k)).flatMap dEnt ++ (W.drop (posL W k + 1)).flatMap dEnt) = (del W k).flatMap dEnt := by
        rw [← posL_del hx hb, List.flatMap_append]; simp
      have hw1 : IntKind.i64.wrap (((posL W k : Nat) : Int) + 1) = ((posL W k + 1 : Nat) : Int) := wrapS (by omega) (by omega)
      refine ifT rfl ?_
      simp only [hw1, Int.toNat_natCast]
      repeat' first
        | with_reducible refine And.intro ?_ ?_
        | with_reducible refine ⟨w, rfl, ?_⟩
        | with_reducible refine St.bd0 (sz := 3) S fun S => ?_
        | with_reducible refine ⟨_, _, _, S.rc w 0 rfl, ?_⟩
        | (with_reducible refine fin16 S w ?_ fin; exact ev)
        | with_reducible refine dAppP (q := s.1) (l' := s.2.1) (c' := s.2.2) (X := W) S hp0 ?_ fun p c h S => ⟨_, _, _, rfl, ?_⟩
        | with_reducible refine dAppT (q := s.1) (l' := s.2.1) (c' := s.2.2) (X := W) S hp1 ?_ fun p c h S => ⟨_, _, _, rfl, ?_⟩
        | omega
        | exact ⟨by omega, by omega⟩

theorem back16 {k : Int} (S : St (DlW w W :: L) h) (u : Up W) (hl : W.length < 1000000) (hF : (∀ a, (k, (a, true)) ∉ W) → ∀ h', St (DlW w W :: L) h' → K (.bool false) h')
    (hT : ∀ a, (k, (a, true)) ∈ W → ∀ h', St (DlW w (upd W k (true, false)) :: L) h' → K (.bool true) h') : CallsH P F.waybillref16_Line_Back [.pointer (some w), .int .u64 k] K h := by
  have S0 := S
  obtain ⟨s, S⟩ := DlW.out S
  refine waybillref16_Line_Back.ok ?_
  unfold waybillref16_Line_Back.p0
  have eg := posL_get u k
  refine find16 S (by omega) ⟨_, _, rfl, ?_⟩
  have jT : (∀ a, (k, (a, true)) ∉ W) → waybillref16_Line_Back.j1 K (some w) k (posL W k : Nat) true h := fun hn => by
    unfold waybillref16_Line_Back.j1
    exact ifT rfl (hF hn h S0)
  cases hx : W[posL W k]? with
  | none =>
    rw [hx] at eg
    exact ifT' rfl (jT fun a hm => by rw [(get?_iff u.nodup).2 hm] at eg; cases eg)
  | some x =>
    obtain ⟨x1, x2, x3⟩ := x
    rw [hx, Option.bind_some] at eg
    by_cases e : x1 = k
    · subst e
      rw [if_pos rfl] at eg
      refine ifF' (by simp) ⟨w, rfl, _, _, _, S.c 0 rfl, ?_⟩
      obtain ⟨p, ep, p0, p1, pc⟩ := dEnt_get hx S
      refine ⟨p, ep, p0, p1, _, pc 2 _ rfl, ?_⟩
      cases x3 with
      | false => exact jT fun a hm => by rw [(get?_iff u.nodup).2 hm] at eg; cases eg
      | true =>
        unfold waybillref16_Line_Back.j1
        refine ifF rfl (set16 (x := (x1, (true, false))) S0 (by omega) (List.getElem?_eq_some_iff.1 hx).1 fun h1 S1 => ⟨rfl, hT x2 (get?_mem eg) h1 ?_⟩)
        rw [posL_upd hx rfl] at S1
        exact S1
    · rw [if_neg e] at eg
      exact ifT' (by simpa using e) (jT fun a hm => by rw [(get?_iff u.nodup).2 hm] at eg; cases eg)

theorem take_loop16 {t2 : Addr} (u : Up W) (hl : W.length < 1000000) (hN : (∀ x ∈ W, x.2.2 = true) → ∀ h', St (DlW w W :: L) h' → K (.tuple #[.agg #[.int .u64 0, .bool false], .bool false]) h')
    (hT : ∀ k a, (k, (a, false)) ∈ W → (∀ x ∈ W, x.1 < k → x.2.2 = true) → ∀ h', St (DlW w (upd W k (a, true)) :: L) h' → K (.tuple #[.agg #[.int .u64 k, .bool a], .bool true]) h') :
    ∀ (fuel i : Nat) (h : Heap), W.length - i < fuel → i ≤ W.length → (∀ x ∈ W.take i, x.2.2 = true) → St (Bx t2 [.int .u64 0, .bool false] :: DlW w W :: L) h → waybillref16_Line_Take.L2 K fuel (some w) t2 i h
  | 0, _, _, hf, _, _, _ => absurd hf (Nat.not_lt_zero _)
  | fuel + 1, i, h, hf, hi, hall, S => by
    obtain ⟨s, S1⟩ := DlW.out S.p1
    obtain ⟨e1, e2⟩ := DlL.len S1
    unfold waybillref16_Line_Take.L2
    refine ⟨w, rfl, _, _, _, S1.c 0 rfl, ?_⟩
    by_cases hlt : i < W.length
    · have hx : W[i]? = some W[i] := List.getElem?_eq_getElem hlt
      refine ifT (by simp; omega) ⟨w, rfl, _, _, _, S1.c 0 rfl, ixS dEnt3 (by decide) (S1.isl 3 s) rfl hx ?_⟩
      unfold bd
      have S2 : St (Bx (top h) [.int .u64 0, .bool false, .bool false] :: DlL w s W (Bx t2 [.int .u64 0, .bool false] :: L)) (al h #[.int .u64 0, .bool false, .bool false] T.waybillref16_Ent) := S1.al [.int .u64 0, .bool false, .bool false] T.waybillref16_Ent
      refine ⟨rfl, S2.wrA (ws := dEnt W[i]) rfl (dEnt_one _) fun h2 S3 => ⟨_, S3.c 2 rfl, ?_⟩⟩
      have et : W.take (i + 1) = W.take i ++ [W[i]] := by rw [List.take_add_one, hx]; rfl
      cases hb : W[i].2.2 with
      | false =>
        refine ifT rfl ⟨_, S3.c 0 rfl, _, S3.c 1 rfl, ?_⟩
        have S4 : St (DlW w W :: Bx (top h) (dEnt W[i]) :: Bx t2 [.int .u64 0, .bool false] :: L) h2 := DlW.inn (s := s) S3.p2.p2
        refine set16 (k := i) (x := (W[i].1, (W[i].2.1, true))) S4 (by omega) hlt fun h5 S5 => ⟨rfl, _, S5.p1.c 0 rfl, _, S5.p1.c 1 rfl, rfl, ?_⟩
        refine S5.p2.wrA (ws := [.int .u64 W[i].1, .bool W[i].2.1]) rfl (by simp [one]) fun h6 S6 => S6.rdA (n := 2) rfl ?_
        have hm : (W[i].1, (W[i].2.1, false)) ∈ W := by rw [← hb]; exact List.getElem_mem hlt
        refine hT _ _ hm (fun y hy hlty => ?_) h6 ?_
        · obtain ⟨j, hj, rfl⟩ := List.mem_iff_getElem.1 hy
          have hji : j < i := by
            rcases Nat.lt_trichotomy j i with h | h | h
            · exact h
            · subst h; omega
            · have := List.pairwise_iff_getElem.1 u i j hlt hj h; omega
          exact hall _ (List.mem_take_iff_getElem.2 ⟨j, by omega, rfl⟩)
        · have e : W.set i (W[i].1, (W[i].2.1, true)) = upd W W[i].1 (W[i].2.1, true) := by
            have hpos : posL W W[i].1 = i := by
              have h3 := posL_get u W[i].1
              have hg0 : get? W W[i].1 = some W[i].2 := (get?_iff u.nodup).2 (List.getElem_mem hlt)
              rw [hg0] at h3
              cases h4 : W[posL W W[i].1]? with
              | none => rw [h4] at h3; cases h3
              | some y =>
                rw [h4, Option.bind_some] at h3
                by_cases e5 : y.1 = W[i].1
                · obtain ⟨h6, h7⟩ := List.getElem?_eq_some_iff.1 h4
                  rcases Nat.lt_trichotomy (posL W W[i].1) i with h | h | h
                  · have := List.pairwise_iff_getElem.1 u _ i h6 hlt h; rw [h7] at this; omega
                  · exact h
                  · have := List.pairwise_iff_getElem.1 u i _ hlt h6 h; rw [h7] at this; omega
                · rw [if_neg e5] at h3; cases h3
            have := posL_upd (W := W) (k := W[i].1) (x := W[i]) (by rw [hpos]; exact hx) rfl (W[i].2.1, true)
            rw [hpos] at this
            exact this
          rw [← e]
          exact S6.p1.d1.to
      | true =>
        refine ifF rfl ?_
        rw [show IntKind.i64.wrap ((i : Int) + 1) = ((i + 1 : Nat) : Int) from wrapS (by omega) (by omega)]
        refine take_loop16 u hl hN hT fuel (i + 1) h2 (by omega) (by omega) (fun y hy => ?_) (DlW.inn (s := s) (S3.tl)).p1
        rw [et] at hy
        rcases List.mem_append.1 hy with hy | hy
        · exact hall y hy
        · simp at hy; subst hy; exact hb
    · refine ifF (by simp; omega) ?_
      unfold waybillref16_Line_Take.j1
      rw [List.take_of_length_le (by omega)] at hall
      refine ⟨rfl, S.wrA (ws := [.int .u64 0, .bool false]) rfl (by simp [one]) fun h2 S2 => S2.rdA (n := 2) rfl (hN hall h2 S2.tl)⟩

theorem take16 (S : St (DlW w W :: L) h) (u : Up W) (hl : W.length < 1000000) (hN : (∀ x ∈ W, x.2.2 = true) → ∀ h', St (DlW w W :: L) h' → K (.tuple #[.agg #[.int .u64 0, .bool false], .bool false]) h')
    (hT : ∀ k a, (k, (a, false)) ∈ W → (∀ x ∈ W, x.1 < k → x.2.2 = true) → ∀ h', St (DlW w (upd W k (a, true)) :: L) h' → K (.tuple #[.agg #[.int .u64 k, .bool a], .bool true]) h') : CallsH P F.waybillref16_Line_Take [.pointer (some w)] K h := by
  refine waybillref16_Line_Take.ok ?_
  unfold waybillref16_Line_Take.p0
  unfold bd
  have S1 : St (Bx (top h) [.int .u64 0, .bool false] :: DlW w W :: L) (al h #[.int .u64 0, .bool false] T.api_Entry) := S.al [.int .u64 0, .bool false] T.api_Entry
  exact ⟨_, take_loop16 u hl hN hT (W.length + 1) 0 _ (by omega) (by omega) (by simp) S1⟩

theorem ready_step {i : Nat} (hlt : i < W.length) : readyL (W.take (i + 1)) = readyL (W.take i) ++ (if W[i].2.2 then [] else [(W[i].1, W[i].2.1)]) := by
  have e : W.take (i + 1) = W.take i ++ [W[i]] := by rw [List.take_add_one, List.getElem?_eq_getElem hlt]; rfl
  unfold readyL
  rw [e, List.filter_append, List.map_append]
  congr 1
  generalize W[i] = y
  obtain ⟨a, b, c⟩ := y
  cases c <;> rfl
theorem held_step {i : Nat} (hlt : i < W.length) : heldL (W.take (i + 1)) = heldL (W.take i) ++ (if W[i].2.2 then [W[i].1] else []) := by
  have e : W.take (i + 1) = W.take i ++ [W[i]] := by rw [List.take_add_one, List.getElem?_eq_getElem hlt]; rfl
  unfold heldL
  rw [e, List.filter_append, List.map_append]
  congr 1
  generalize W[i] = y
  obtain ⟨a, b, c⟩ := y
  cases c <;> rfl

theorem ready_loop16 (hl : W.length < 1000000) (hK : ∀ h' o, St (Ow 2 o ((readyL W).flatMap ecell) :: DlL w s W L) h' → K (.slice o.1 o.2.1 o.2.2) h') :
    ∀ (fuel i : Nat) (o : SV) (h : Heap), W.length - i < fuel → i ≤ W.length → o.2.1 ≤ i → St (Ow 2 o ((readyL (W.take i)).flatMap ecell) :: DlL w s W L) h → waybillref16_Line_Ready.L1 K fuel (some w) o.1 o.2.1 o.2.2 i h
  | 0, _, _, _, hf, _, _, _ => absurd hf (Nat.not_lt_zero _)
  | fuel + 1, i, o, h, hf, hi, ho, S => by
    obtain ⟨e1, e2⟩ := DlL.len S.tl
    unfold waybillref16_Line_Ready.L1
    refine ⟨w, rfl, _, _, _, S.p1.c 0 rfl, ?_⟩
    by_cases hlt : i < W.length
    · have hx : W[i]? = some W[i] := List.getElem?_eq_getElem hlt
      obtain ⟨p, ep, p0, p1, pc⟩ := dEnt_get hx S.tl
      have st := ready_step hlt
      have next : ∀ (o' : SV) (h' : Heap), o'.2.1 ≤ i + 1 → St (Ow 2 o' ((readyL (W.take (i + 1))).flatMap ecell) :: DlL w s W L) h' → waybillref16_Line_Ready.j2 K (waybillref16_Line_Ready.L1 K fuel) (some w) o'.1 o'.2.1 o'.2.2 i h' := fun o' h' ho' S' => by
        unfold waybillref16_Line_Ready.j2
        unfold bd
        rw [show IntKind.i64.wrap ((i : Int) + 1) = ((i + 1 : Nat) : Int) from wrapS (by omega) (by omega)]
        exact ready_loop16 hl hK fuel (i + 1) o' h' (by omega) (by omega) ho' S'
      refine ifT (by simp; omega) ⟨w, rfl, _, _, _, S.p1.c 0 rfl, p, ep, p0, p1, _, pc 2 _ rfl, ?_⟩
      cases hb : W[i].2.2 with
      | true =>
        rw [hb, if_pos rfl, List.append_nil] at st
        exact ifF rfl (next o h (by omega) (by rw [st]; exact S))
      | false =>
        rw [hb, if_neg (by simp)] at st
        refine ifT rfl ⟨w, rfl, w, rfl, _, _, _, S.p1.c 0 rfl, p, ep, p0, p1, _, pc 0 _ rfl, _, _, _, S.p1.c 0 rfl, p, ep, p0, p1, _, pc 1 _ rfl, ecell (W[i].1, W[i].2.1), bld_entry _ _, ?_⟩
        refine St.bd1 (cs := ecell (W[i].1, W[i].2.1)) S fun S1 => ?_
        have sa : Sl 2 (al h (ecell (W[i].1, W[i].2.1)).toArray T.api_Entry) (some (top h)) 1 (ecell (W[i].1, W[i].2.1)) := ⟨rfl, S1.mem.1⟩
        refine S1.p1.app sl_entry rfl u_sle (fun k e => by cases e) (Src.slice (n := 1) (c := 1) sa (by simp [one])) (by omega) (by omega) fun p' c' h' S' => ⟨_, _, _, rfl, ?_⟩
        refine next (p', o.2.1 + 1, c') h' (by show o.2.1 + 1 ≤ i + 1; omega) ?_
        rw [st, List.flatMap_append, List.flatMap_cons, List.flatMap_nil, List.append_nil]
        exact S'.d1
    · refine ifF (by simp; omega) (hK h o ?_)
      rw [List.take_of_length_le (by omega)] at S
      exact S
theorem ready16 (S : St (DlW w W :: L) h) (hl : W.length < 1000000) (hK : ∀ h' o, St (Ow 2 o ((readyL W).flatMap ecell) :: DlW w W :: L) h' → K (.slice o.1 o.2.1 o.2.2) h') : CallsH P F.waybillref16_Line_Ready [.pointer (some w)] K h := by
  obtain ⟨s, S⟩ := DlW.out S
  refine waybillref16_Line_Ready.ok ?_
  unfold waybillref16_Line_Ready.p0
  exact ⟨_, ready_loop16 hl (fun h' o S' => hK h' o (DlW.inn (s := s) S'.p2.p2).p1) (W.length + 1) 0 (none, 0, 0) h (by omega) (by omega) (by simp) (S.owNil 2)⟩
theorem held_loop16 (hl : W.length < 1000000) (hK : ∀ h' o, St (Ow 1 o ((heldL W).map kkU) :: DlL w s W L) h' → K (.slice o.1 o.2.1 o.2.2) h') :
    ∀ (fuel i : Nat) (o : SV) (h : Heap), W.length - i < fuel → i ≤ W.length → o.2.1 ≤ i → St (Ow 1 o ((heldL (W.take i)).map kkU) :: DlL w s W L) h → waybillref16_Line_Held.L1 K fuel (some w) o.1 o.2.1 o.2.2 i h
  | 0, _, _, _, hf, _, _, _ => absurd hf (Nat.not_lt_zero _)
  | fuel + 1, i, o, h, hf, hi, ho, S => by
    obtain ⟨e1, e2⟩ := DlL.len S.tl
    unfold waybillref16_Line_Held.L1
    refine ⟨w, rfl, _, _, _, S.p1.c 0 rfl, ?_⟩
    by_cases hlt : i < W.length
    · have hx : W[i]? = some W[i] := List.getElem?_eq_getElem hlt
      obtain ⟨p, ep, p0, p1, pc⟩ := dEnt_get hx S.tl
      have st := held_step hlt
      have next : ∀ (o' : SV) (h' : Heap), o'.2.1 ≤ i + 1 → St (Ow 1 o' ((heldL (W.take (i + 1))).map kkU) :: DlL w s W L) h' → waybillref16_Line_Held.j2 K (waybillref16_Line_Held.L1 K fuel) (some w) o'.1 o'.2.1 o'.2.2 i h' := fun o' h' ho' S' => by
        unfold waybillref16_Line_Held.j2
        unfold bd
        rw [show IntKind.i64.wrap ((i : Int) + 1) = ((i + 1 : Nat) : Int) from wrapS (by omega) (by omega)]
        exact held_loop16 hl hK fuel (i + 1) o' h' (by omega) (by omega) ho' S'
      refine ifT (by simp; omega) ⟨w, rfl, _, _, _, S.p1.c 0 rfl, p, ep, p0, p1, _, pc 2 _ rfl, ?_⟩
      cases hb : W[i].2.2 with
      | false =>
        rw [hb, if_neg (by simp), List.append_nil] at st
        exact ifF rfl (next o h (by omega) (by rw [st]; exact S))
      | true =>
        rw [hb, if_pos rfl] at st
        refine ifT rfl ⟨w, rfl, _, _, _, S.p1.c 0 rfl, p, ep, p0, p1, _, pc 0 _ rfl, ?_⟩
        refine St.bd1 (cs := [.int .u64 W[i].1]) S fun S1 => ?_
        have sa : Sl 1 (al h [Value.int .u64 W[i].1].toArray T.uint64) (some (top h)) 1 [.int .u64 W[i].1] := ⟨rfl, S1.mem.1⟩
        refine S1.p1.app sl_u64r rfl u_slur (fun k e => by cases e) (Src.slice (n := 1) (c := 1) sa (by simp [one])) (by omega) (by omega) fun p' c' h' S' => ⟨_, _, _, rfl, ?_⟩
        refine next (p', o.2.1 + 1, c') h' (by show o.2.1 + 1 ≤ i + 1; omega) ?_
        rw [st, List.map_append]
        exact S'.d1
    · refine ifF (by simp; omega) (hK h o ?_)
      rw [List.take_of_length_le (by omega)] at S
      exact S
theorem held16 (S : St (DlW w W :: L) h) (hl : W.length < 1000000) (hK : ∀ h' o, St (Ow 1 o ((heldL W).map kkU) :: DlW w W :: L) h' → K (.slice o.1 o.2.1 o.2.2) h') : CallsH P F.waybillref16_Line_Held [.pointer (some w)] K h := by
  obtain ⟨s, S⟩ := DlW.out S
  refine waybillref16_Line_Held.ok ?_
  unfold waybillref16_Line_Held.p0
  exact ⟨_, held_loop16 hl (fun h' o S' => hK h' o (DlW.inn (s := s) S'.p2.p2).p1) (W.length + 1) 0 (none, 0, 0) h (by omega) (by omega) (by simp) (S.owNil 1)⟩
end
end Go.Proofs.Ytechpnlbkkfplaa.Pr

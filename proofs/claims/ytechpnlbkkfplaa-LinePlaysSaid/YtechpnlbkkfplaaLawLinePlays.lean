/- LinePlays: entries are put, taken, given back and dropped as the document says; a copy goes its own way. -/
import Derived.Test.YtechpnlbkkfplaaAwake17
import Derived.Test.YtechpnlbkkfplaaRefLine
import Derived.Test.YtechpnlbkkfplaaLineC
import Derived.Test.YtechpnlbkkfplaaPrLaw17Same
import Derived.Test.YtechpnlbkkfplaaPrLaw17Lineplays
import Derived.Test.YtechpnlbkkfplaaArOp17
set_option linter.unusedVariables false
set_option linter.unusedSimpArgs false
namespace Go.Proofs.Ytechpnlbkkfplaa.Pr
open Go Go.Lift Go.Proofs

abbrev putB (W : LRow) (k : Int) : Bool := !(get? W k).isSome && !decide (k = 0)
def putW (W : LRow) (k : Int) (a : Bool) : LRow := if putB W k then ins W k (a, false) else W
abbrev backB (W : LRow) (k : Int) : Bool := (get? W k).any (·.2)
def backW' (W : LRow) (k : Int) : LRow := if backB W k then upd W k (true, false) else W
theorem putW_len (W : LRow) (k : Int) (a : Bool) : (putW W k a).length ≤ W.length + 1 := by unfold putW; split <;> simp [ins_len]
theorem backW_len (W : LRow) (k : Int) : (backW' W k).length ≤ W.length := by
  unfold backW'
  split
  · rename_i h
    have : k ∈ W.map Prod.fst := by
      cases hg : get? W k with
      | none => unfold backB at h; rw [hg] at h; cases h
      | some x => exact List.mem_map.2 ⟨_, get?_mem hg, rfl⟩
    rw [upd_len this]; exact Nat.le_refl _
  · exact Nat.le_refl _
theorem backB_iff {W : LRow} (u : Up W) (k : Int) : backB W k = true ↔ ∃ a, (k, (a, true)) ∈ W := by
  unfold backB
  cases hg : get? W k with
  | none => simp only [Option.any_none, Bool.false_eq_true, false_iff]; rintro ⟨a, ha⟩; rw [(get?_iff u.nodup).2 ha] at hg; cases hg
  | some x =>
    obtain ⟨a, b⟩ := x
    simp only [Option.any_some]
    constructor
    · intro e; subst e; exact ⟨a, get?_mem hg⟩
    · rintro ⟨c, hc⟩; rw [(get?_iff u.nodup).2 hc] at hg; cases hg; rfl

section
variable {K : KT} {L R : List Asr} {h : Heap} {l w : Addr} {W : LRow}
theorem LnW.upW (S : St (LnW l W :: L) h) : Up W := by
  obtain ⟨_, _, _, _, q, _⟩ := LnW.out S
  exact q.up

theorem putLB {k : Int} {a : Bool} (S : St L h) (l : Addr) [Has (LnW l) L W R] (hid : 0 ≤ k ∧ k < 18446744073709551616) (hK : ∀ h', St (LnW l (putW W k a) :: R) h' → K (.bool (putB W k)) h') : CallsH P F.line_Line_Put [.pointer (some l), .int .u64 k, .bool a] K h := by
  refine putLineW (S.get (LnW l)) hid (fun e h' S' => ?_) fun e1 e2 h' S' => ?_
  · have hb : putB W k = false := by
      unfold putB
      rcases e with e | e
      · rw [e]; rfl
      · rw [decide_eq_true e]; simp
    have := hK h' (by unfold putW; rw [hb]; exact S')
    rw [hb] at this; exact this
  · have hb : putB W k = true := by unfold putB; rw [e1, decide_eq_false e2]; rfl
    have := hK h' (by unfold putW; rw [hb]; exact S')
    rw [hb] at this; exact this
theorem putDB {k : Int} {a : Bool} (S : St L h) (w : Addr) [Has (DlW w) L W R] (u : Up W) (hl : W.length < 1000000) (hK : ∀ h', St (DlW w (putW W k a) :: R) h' → K (.bool (putB W k)) h') : CallsH P F.waybillref16_Line_Put [.pointer (some w), .int .u64 k, .bool a] K h := by
  refine put16 (S.get (DlW w)) u hl (fun e h' S' => ?_) fun e1 e2 h' S' => ?_
  · have hb : putB W k = false := by
      unfold putB
      rcases e with e | e
      · rw [e]; rfl
      · rw [decide_eq_true e]; simp
    have := hK h' (by unfold putW; rw [hb]; exact S')
    rw [hb] at this; exact this
  · have hb : putB W k = true := by unfold putB; rw [e1, decide_eq_false e2]; rfl
    have := hK h' (by unfold putW; rw [hb]; exact S')
    rw [hb] at this; exact this
theorem backLB {k : Int} (S : St L h) (l : Addr) [Has (LnW l) L W R] (hK : ∀ h', St (LnW l (backW' W k) :: R) h' → K (.bool (backB W k)) h') : CallsH P F.line_Line_Back [.pointer (some l), .int .u64 k] K h := by
  have S0 := S.get (LnW l)
  have u := LnW.upW S0
  refine backLineW S0 (fun hno h' S' => ?_) fun a ha h' S' => ?_
  · have hb : backB W k = false := by
      cases hb : backB W k with
      | false => rfl
      | true => obtain ⟨a, ha⟩ := (backB_iff u k).1 hb; exact absurd ha (hno a)
    have := hK h' (by unfold backW'; rw [hb]; exact S')
    rw [hb] at this; exact this
  · have hb : backB W k = true := (backB_iff u k).2 ⟨a, ha⟩
    have := hK h' (by unfold backW'; rw [hb]; exact S')
    rw [hb] at this; exact this
theorem backDB {k : Int} (S : St L h) (w : Addr) [Has (DlW w) L W R] (u : Up W) (hl : W.length < 1000000) (hK : ∀ h', St (DlW w (backW' W k) :: R) h' → K (.bool (backB W k)) h') : CallsH P F.waybillref16_Line_Back [.pointer (some w), .int .u64 k] K h := by
  refine back16 (S.get (DlW w)) u hl (fun hno h' S' => ?_) fun a ha h' S' => ?_
  · have hb : backB W k = false := by
      cases hb : backB W k with
      | false => rfl
      | true => obtain ⟨a, ha⟩ := (backB_iff u k).1 hb; exact absurd ha (hno a)
    have := hK h' (by unfold backW'; rw [hb]; exact S')
    rw [hb] at this; exact this
  · have hb : backB W k = true := (backB_iff u k).2 ⟨a, ha⟩
    have := hK h' (by unfold backW'; rw [hb]; exact S')
    rw [hb] at this; exact this
theorem dropLB {k : Int} (S : St L h) (l : Addr) [Has (LnW l) L W R] (hK : ∀ h', St (LnW l (del W k) :: R) h' → K (.bool (get? W k).isSome) h') : CallsH P F.line_Line_Drop [.pointer (some l), .int .u64 k] K h := dropLineW (S.get (LnW l)) hK
theorem dropDB {k : Int} (S : St L h) (w : Addr) [Has (DlW w) L W R] (u : Up W) (hl : W.length < 1000000) (hK : ∀ h', St (DlW w (del W k) :: R) h' → K (.bool (get? W k).isSome) h') : CallsH P F.waybillref16_Line_Drop [.pointer (some w), .int .u64 k] K h := drop16 (S.get (DlW w)) u hl hK

theorem same_nums {a b : SV} {xs : List Int} (hx : xs.length < 1000000) (ha : Sl 1 h a.1 a.2.1 (xs.map kkU)) (hb : Sl 1 h b.1 b.2.1 (xs.map kkU)) (hK : K (.bool true) h) :
    ∀ (fuel i : Nat), xs.length - i < fuel → i ≤ xs.length → waybilllaw17_Same.L3 K fuel a.1 a.2.1 a.2.2 b.1 b.2.1 b.2.2 i h
  | 0, _, hf, _ => absurd hf (Nat.not_lt_zero _)
  | fuel + 1, i, hf, hi => by
    have el : a.2.1 = xs.length := by have := ha.1; simpa using this.symm
    unfold waybilllaw17_Same.L3
    by_cases hlt : i < xs.length
    · refine ifT (by simp; omega) (ixV (n := i) (w := kkU xs[i]) ha rfl (by simp [hlt]) fun p ep cp => ixV (n := i) (w := kkU xs[i]) hb rfl (by simp [hlt]) fun p2 ep2 cp2 => ⟨_, cp, _, cp2, ifF (bne_self_eq_false _) ?_⟩)
      unfold bd
      rw [show IntKind.i64.wrap ((i : Int) + 1) = ((i + 1 : Nat) : Int) from wrapS (by omega) (by omega)]
      exact same_nums hx ha hb hK fuel (i + 1) (by omega) (by omega)
    · exact ifF (by simp; omega) hK
theorem same_ents {a b c d : SV} {es : List (Int × Bool)} {xs : List Int} (he : es.length < 1000000) (hx : xs.length < 1000000) (ha : Sl 2 h a.1 a.2.1 (es.flatMap ecell)) (hb : Sl 2 h b.1 b.2.1 (es.flatMap ecell)) (hc : Sl 1 h c.1 c.2.1 (xs.map kkU)) (hd : Sl 1 h d.1 d.2.1 (xs.map kkU)) (hK : K (.bool true) h) :
    ∀ (fuel i : Nat), es.length - i < fuel → i ≤ es.length → waybilllaw17_Same.L4 K fuel a.1 a.2.1 a.2.2 b.1 b.2.1 b.2.2 c.1 c.2.1 c.2.2 d.1 d.2.1 d.2.2 i h
  | 0, _, hf, _ => absurd hf (Nat.not_lt_zero _)
  | fuel + 1, i, hf, hi => by
    have el : a.2.1 = es.length := by have := ha.1; rw [ecells_len] at this; omega
    have e2 : ∀ x : Int × Bool, (ecell x).length = 2 := fun _ => rfl
    unfold waybilllaw17_Same.L4
    by_cases hlt : i < es.length
    · have hx : es[i]? = some es[i] := List.getElem?_eq_getElem hlt
      refine ifT (by simp; omega) ?_
      obtain ⟨p, ep, p0, p1, cs, rd, e⟩ := ixS e2 (by decide) ha (i := (i : Int)) rfl hx (R := fun cs => cs = ecell es[i]) rfl
      obtain ⟨p', ep', p0', p1', cs', rd', e'⟩ := ixS e2 (by decide) hb (i := (i : Int)) rfl hx (R := fun cs => cs = ecell es[i]) rfl
      subst e
      subst e'
      refine ⟨p, ep, p0, p1, p', ep', p0', p1', _, rd, _, rd', entNeqS (a := es[i]) (b := es[i]) _ _ ⟨_, rfl, ifF (by simp) ?_⟩⟩
      unfold bd
      rw [show IntKind.i64.wrap ((i : Int) + 1) = ((i + 1 : Nat) : Int) from wrapS (by omega) (by omega)]
      exact same_ents he (by omega) ha hb hc hd hK fuel (i + 1) (by omega) (by omega)
    · refine ifF (by simp; omega) ?_
      unfold waybilllaw17_Same.j2
      exact ⟨xs.length + 1, same_nums hx hc hd hK _ 0 (by omega) (by omega)⟩
theorem same17S (S : St (LnW l W :: DlW w W :: L) h) (hl : W.length < 1000000) (hK : ∀ h', St (LnW l W :: DlW w W :: L) h' → K (.bool true) h') : CallsH P F.waybilllaw17_Same [.pointer (some l), .pointer (some w)] K h := by
  have hr : (readyL W).length ≤ W.length := by rw [List.length_map]; exact List.length_filter_le _ _
  have hh : (heldL W).length ≤ W.length := by rw [List.length_map]; exact List.length_filter_le _ _
  refine waybilllaw17_Same.ok ?_
  unfold waybilllaw17_Same.p0
  refine ifF rfl (readyLineW S (by omega) fun h1 a S1 => ⟨_, _, _, rfl, ?_⟩)
  refine ready16 S1.p2 hl fun h2 b S2 => ⟨_, _, _, rfl, ?_⟩
  refine heldLineW S2.p3 (by omega) fun h3 c S3 => ⟨_, _, _, rfl, ?_⟩
  refine held16 S3.p3 hl fun h4 d S4 => ⟨_, _, _, rfl, ?_⟩
  have S5 : St (Ow 1 d ((heldL W).map kkU) :: Ow 1 c ((heldL W).map kkU) :: Ow 2 b ((readyL W).flatMap ecell) :: Ow 2 a ((readyL W).flatMap ecell) :: LnW l W :: DlW w W :: L) h4 := S4.to
  have la : a.2.1 = (readyL W).length := by have := S5.p3.ow.1; rw [ecells_len] at this; omega
  have lb : b.2.1 = (readyL W).length := by have := S5.p2.ow.1; rw [ecells_len] at this; omega
  have lc : c.2.1 = (heldL W).length := by have := S5.p1.ow.1; rw [List.length_map] at this; omega
  have ld : d.2.1 = (heldL W).length := by have := S5.ow.1; rw [List.length_map] at this; omega
  refine ifF' (by rw [la, lb]; exact bne_self_eq_false _) ?_
  rw [show (((c.2.1 : Nat) : Int) != ((d.2.1 : Nat) : Int)) = false by rw [lc, ld]; exact bne_self_eq_false _]
  unfold waybilllaw17_Same.j1
  exact ifF rfl ⟨(readyL W).length + 1, same_ents (by omega) (by omega) S5.p3.sl S5.p2.sl S5.p1.sl S5.sl (hK h4 S5.tl.tl.tl.tl) _ 0 (by omega) (by omega)⟩

/-- Is there one that may be taken? The row behind it. -/
theorem first_free (u : Up W) : (∀ x ∈ W, x.2.2 = true) ∨ ∃ k a, (k, (a, false)) ∈ W ∧ ∀ x ∈ W, x.1 < k → x.2.2 = true := by
  induction W with
  | nil => exact .inl fun x hx => by cases hx
  | cons y r ih =>
    have uy := List.pairwise_cons.1 u
    obtain ⟨y1, y2, y3⟩ := y
    cases y3 with
    | false => exact .inr ⟨y1, y2, List.mem_cons_self .., fun x hx hlt => by
        rcases List.mem_cons.1 hx with e | e
        · subst e; exact absurd hlt (Int.lt_irrefl _)
        · have := uy.1 x e; simp at this; omega⟩
    | true =>
      rcases ih uy.2 with h | ⟨k, a, hm, hle⟩
      · exact .inl fun x hx => by
          rcases List.mem_cons.1 hx with e | e
          · subst e; rfl
          · exact h x e
      · exact .inr ⟨k, a, List.mem_cons_of_mem _ hm, fun x hx hlt => by
          rcases List.mem_cons.1 hx with e | e
          · subst e; rfl
          · exact hle x e hlt⟩
theorem free_uniq (u : Up W) {k k' : Int} {a a' : Bool} (h : (k, (a, false)) ∈ W) (h' : (k', (a', false)) ∈ W) (m : ∀ x ∈ W, x.1 < k → x.2.2 = true) (m' : ∀ x ∈ W, x.1 < k' → x.2.2 = true) : k = k' ∧ a = a' := by
  have e : k = k' := by
    rcases Int.lt_trichotomy k k' with hl | he | hl
    · have := m' _ h hl; cases this
    · exact he
    · have := m _ h' hl; cases this
  subst e
  have e1 := (get?_iff u.nodup).2 h
  rw [(get?_iff u.nodup).2 h'] at e1
  cases e1; exact ⟨rfl, rfl⟩

abbrev cOp (x : Ar.X_Op17) : List Value := Ar.c_Op17 x
theorem cOp3 : ∀ x, (cOp x).length = 3 := fun _ => rfl
theorem cOp_one (x : Ar.X_Op17) : ∀ v ∈ cOp x, one v = true := by simp [one]

variable {t : SV} {xs : List Ar.X_Op17}
theorem lp_end (hl : W.length < 1000) (hK : ∀ h', St L h' → K (.bool true) h') (S : St (LnW l W :: DlW w W :: L) h) : waybilllaw17_LinePlays.j2 K (some l) (some w) h := by
  have u := LnW.upW S
  unfold waybilllaw17_LinePlays.j2
  refine copyLineW S fun h1 c S1 => ⟨_, rfl, ?_⟩
  refine same17S (L := LnW l W :: L) (show St (LnW c W :: DlW w W :: LnW l W :: L) h1 from S1.to) (by omega) fun h2 S2 => ⟨_, rfl, ifF rfl ?_⟩
  have fin : ∀ h3 W2, St (LnW c W2 :: DlW w W :: LnW l W :: L) h3 → CallsH P F.line_Line_Put [.pointer (some c), .int .u64 9223372036854775808, .bool false] (fun v15 h16 => ∃ b17, v15 = .bool b17 ∧ CallsH P F.waybilllaw17_Same [.pointer (some l), .pointer (some w)] (fun v18 h19 => ∃ b20, v18 = .bool b20 ∧ K (.bool b20) h19) h16) h3 := fun h3 W2 S3 => by
    refine putLB S3 c (by omega) fun h4 S4 => ⟨_, rfl, ?_⟩
    refine same17S (L := LnW c (putW W2 9223372036854775808 false) :: L) S4.p1.p2 (by omega) fun h5 S5 => ⟨_, rfl, hK h5 S5.tl.tl.tl⟩
  refine takeLineW S2 (fun _ h3 S3 => ⟨[.int .u64 0, .bool false], _, rfl, fin h3 W S3⟩) fun k a _ _ h3 S3 => ⟨[.int .u64 k, .bool a], _, rfl, fin h3 _ S3⟩

set_option maxHeartbeats 2000000 in
theorem lp_loop (ht : t.2.1 = xs.length) (hw : ∀ x ∈ xs, Ar.q_Op17 x) [In (Im 3 t) L (xs.flatMap cOp)] (hK : ∀ h', St L h' → K (.bool true) h') :
    ∀ (fuel i : Nat) (W : LRow) (h : Heap), xs.length - i < fuel → i ≤ xs.length → i ≤ 80 → W.length ≤ i → St (LnW l W :: DlW w W :: L) h → waybilllaw17_LinePlays.L3 K fuel t.1 t.2.1 t.2.2 (some l) (some w) i h
  | 0, _, _, _, hf, _, _, _, _ => absurd hf (Nat.not_lt_zero _)
  | fuel + 1, i, W, h, hf, hi, h80, hW, S => by
    have u := LnW.upW S
    have hl : W.length < 1000000 := by omega
    unfold waybilllaw17_LinePlays.L3
    have jF : waybilllaw17_LinePlays.j4 K (waybilllaw17_LinePlays.L3 K fuel) t.1 t.2.1 t.2.2 (some l) (some w) i false h := by
      unfold waybilllaw17_LinePlays.j4
      exact ifF rfl (lp_end (by omega) hK S)
    by_cases hlt : i < xs.length
    · refine ifT (by simp [ht]; omega) ?_
      by_cases h8 : i < 80
      · rw [show decide ((i : Int) < 80) = true by simp; omega]
        unfold waybilllaw17_LinePlays.j4
        have hx : xs[i]? = some xs[i] := List.getElem?_eq_getElem hlt
        have hq := hw _ (List.getElem_mem hlt)
        generalize xs[i] = o at hx hq
        obtain ⟨kd, id, ag⟩ := o
        have hid := wf_u64 hq.2.1
        refine ifT rfl (ixS cOp3 (by decide) (S.isl 3 t) rfl hx ?_)
        refine St.bd1 (cs := [.int .i64 0, .int .u64 0, .bool false]) S fun S1 => ⟨rfl, S1.wrA (ws := cOp (kd, id, ag)) rfl (cOp_one _) fun h2 S => ⟨_, S.c 0 rfl, ?_⟩⟩
        generalize top h = x6 at *
        have j5 : ∀ (W' : LRow) (h' : Heap), W'.length ≤ i + 1 → St (LnW l W' :: DlW w W' :: L) h' → waybilllaw17_LinePlays.j5 K (waybilllaw17_LinePlays.L3 K fuel) t.1 t.2.1 t.2.2 (some l) (some w) i h' := fun W' h' hl' S' => by
          unfold waybilllaw17_LinePlays.j5
          refine same17S S' (by omega) fun h3 S3 => ⟨_, rfl, ifF rfl ?_⟩
          unfold bd
          rw [show IntKind.i64.wrap ((i : Int) + 1) = ((i + 1 : Nat) : Int) from wrapS (by omega) (by omega)]
          exact lp_loop ht hw hK fuel (i + 1) W' h3 (by omega) (by omega) (by omega) hl' S3
        have j6 : ∀ b : Bool, (b = false → True) → waybilllaw17_LinePlays.j6 K (waybilllaw17_LinePlays.L3 K fuel) t.1 t.2.1 t.2.2 (some l) (some w) i x6 kd b h2 := fun b _ => by
          unfold waybilllaw17_LinePlays.j6
          cases b with
          | true =>
            refine ifT rfl ?_
            have done : ∀ (e : Int × Bool) (bb : Bool) (W' : LRow) (h3 : Heap) (a1 a2 : Addr), W'.length ≤ i + 1 → St (Bx a2 (ecell e) :: Bx a1 (ecell e) :: LnW l W' :: DlW w W' :: L) h3 → ∃ cs42, rdC h3 a1 0 2 = some cs42 ∧ ∃ cs43, rdC h3 a2 0 2 = some cs43 ∧ SemH P (eqS .neq T.api_Entry (.tmp 63) (.tmp 64) (.agg (List.toArray cs42)) (.agg (List.toArray cs43))) (fun v44 h45 => ∃ b46, v44 = .bool b46 ∧ (b46 = false → waybilllaw17_LinePlays.j7 K (waybilllaw17_LinePlays.L3 K fuel) t.1 t.2.1 t.2.2 (some l) (some w) i (!(bb == bb)) h45) ∧ (b46 = true → waybilllaw17_LinePlays.j7 K (waybilllaw17_LinePlays.L3 K fuel) t.1 t.2.1 t.2.2 (some l) (some w) i true h45)) h3 := fun e bb W' h3 a1 a2 hl' S' => by
              refine S'.p1.rdA (n := 2) rfl (S'.rdA (n := 2) rfl ?_)
              refine entNeqS (a := e) (b := e) _ _ ⟨_, rfl, ifF' (by simp) ?_⟩
              unfold waybilllaw17_LinePlays.j7
              exact ifF (by simp) (j5 W' h3 hl' S'.tl.tl)
            rcases first_free u with hall | ⟨k0, a0, hm0, hle0⟩
            · refine takeLineW (S.p1) (fun _ h3 S3 => ⟨[.int .u64 0, .bool false], _, rfl, ?_⟩) fun k a hm _ => by have := hall _ hm; cases this
              refine St.bd1 (cs := [.int .u64 0, .bool false]) S3 fun S4 => ⟨rfl, S4.wrA (ws := [.int .u64 0, .bool false]) rfl (by simp [one]) fun h5 S5 => ?_⟩
              refine take16 S5.p3 u hl (fun _ h6 S6 => ⟨[.int .u64 0, .bool false], _, rfl, ?_⟩) fun k a hm _ => by have := hall _ hm; cases this
              refine St.bd1 (cs := [.int .u64 0, .bool false]) S6 fun S7 => ⟨rfl, S7.wrA (ws := [.int .u64 0, .bool false]) rfl (by simp [one]) fun h8 S8 => ?_⟩
              exact done (0, false) _ W h8 _ _ (by omega) S8.to
            · have hmem : k0 ∈ W.map Prod.fst := List.mem_map.2 ⟨_, hm0, rfl⟩
              refine takeLineW (S.p1) (fun hall => by have := hall _ hm0; cases this) fun k a hm hle h3 S3 => ⟨[.int .u64 k, .bool a], _, rfl, ?_⟩
              obtain ⟨rfl, rfl⟩ := free_uniq u hm hm0 hle hle0
              refine St.bd1 (cs := [.int .u64 0, .bool false]) S3 fun S4 => ⟨rfl, S4.wrA (ws := [.int .u64 k, .bool a]) rfl (by simp [one]) fun h5 S5 => ?_⟩
              refine take16 S5.p3 u hl (fun hall => by have := hall _ hm0; cases this) fun k2 a2 hm2 hle2 h6 S6 => ⟨[.int .u64 k2, .bool a2], _, rfl, ?_⟩
              obtain ⟨rfl, rfl⟩ := free_uniq u hm2 hm0 hle2 hle0
              refine St.bd1 (cs := [.int .u64 0, .bool false]) S6 fun S7 => ⟨rfl, S7.wrA (ws := [.int .u64 k2, .bool a2]) rfl (by simp [one]) fun h8 S8 => ?_⟩
              exact done (k2, a2) _ (upd W k2 (a2, true)) h8 _ _ (by rw [upd_len hmem]; omega) S8.to
          | false =>
            refine ifF rfl ?_
            unfold bd
            by_cases k5 : kd = 5
            · refine ifT (by simp [k5]) ?_
              have fin : ∀ h', St (DlW w (backW' W id) :: LnW l (backW' W id) :: Bx x6 (cOp (kd, id, ag)) :: L) h' → waybilllaw17_LinePlays.j8 K (waybilllaw17_LinePlays.L3 K fuel) t.1 t.2.1 t.2.2 (some l) (some w) i (!(backB W id == backB W id)) h' := fun h' S' => by
                unfold waybilllaw17_LinePlays.j8
                exact ifF (by simp) (j5 (backW' W id) h' (by have := backW_len W id; omega) S'.to)
              repeat' first
                | with_reducible refine And.intro ?_ ?_
                | with_reducible refine ⟨_, S.rc x6 1 rfl, ?_⟩
                | with_reducible refine backLB S l fun h S => ⟨_, rfl, ?_⟩
                | with_reducible refine backDB S w u hl fun h S => ⟨_, rfl, ?_⟩
                | exact fin _ S.to
            · refine ifF (by simp [k5]) ?_
              by_cases k6 : kd = 6
              · refine ifT (by simp [k6]) ?_
                have fin : ∀ h', St (DlW w (del W id) :: LnW l (del W id) :: Bx x6 (cOp (kd, id, ag)) :: L) h' → waybilllaw17_LinePlays.j9 K (waybilllaw17_LinePlays.L3 K fuel) t.1 t.2.1 t.2.2 (some l) (some w) i (!((get? W id).isSome == (get? W id).isSome)) h' := fun h' S' => by
                  unfold waybilllaw17_LinePlays.j9
                  exact ifF (by simp) (j5 (del W id) h' (by have := (del_sub W id).length_le; omega) S'.to)
                repeat' first
                  | with_reducible refine And.intro ?_ ?_
                  | with_reducible refine ⟨_, S.rc x6 1 rfl, ?_⟩
                  | with_reducible refine dropLB S l fun h S => ⟨_, rfl, ?_⟩
                  | with_reducible refine dropDB S w u hl fun h S => ⟨_, rfl, ?_⟩
                  | exact fin _ S.to
              · refine ifF (by simp [k6]) ?_
                have fin : ∀ h', St (DlW w (putW W id ag) :: LnW l (putW W id ag) :: Bx x6 (cOp (kd, id, ag)) :: L) h' → waybilllaw17_LinePlays.j10 K (waybilllaw17_LinePlays.L3 K fuel) t.1 t.2.1 t.2.2 (some l) (some w) i (!(putB W id == putB W id)) h' := fun h' S' => by
                  unfold waybilllaw17_LinePlays.j10
                  exact ifF (by simp) (j5 (putW W id ag) h' (by have := putW_len W id ag; omega) S'.to)
                repeat' first
                  | with_reducible refine And.intro ?_ ?_
                  | with_reducible refine ⟨_, S.rc x6 1 rfl, ?_⟩
                  | with_reducible refine ⟨_, S.rc x6 2 rfl, ?_⟩
                  | with_reducible refine putLB S l hid fun h S => ⟨_, rfl, ?_⟩
                  | with_reducible refine putDB S w u hl fun h S => ⟨_, rfl, ?_⟩
                  | exact fin _ S.to
        unfold bd
        by_cases k3 : kd = 3
        · exact ifT (by simp [k3]) (j6 _ fun _ => trivial)
        · exact ifF (by simp [k3]) (j6 _ fun _ => trivial)
      · rw [show decide ((i : Int) < 80) = false by simp; omega]
        exact jF
    · exact ifF (by simp [ht]; omega) jF

theorem LinePlays.law {h : Heap} (s : SV) (xs : List Ar.X_Op17) (sl : Sl 3 h s.1 s.2.1 (xs.flatMap Ar.c_Op17)) (le : s.2.1 ≤ s.2.2) (mx : s.2.2 ≤ maxLen) (wx : ∀ x ∈ xs, Ar.q_Op17 x) :
    CallsH P F.waybilllaw17_LinePlays [s.v] (fun v h' => v = .bool true ∧ Kept h h') h := by
  refine waybilllaw17_LinePlays.ok ?_
  unfold waybilllaw17_LinePlays.p0
  have ls : s.2.1 = xs.length := by have := sl.1; rw [flat_length cOp3] at this; omega
  have S0 : St (Im 3 s (xs.flatMap cOp) :: [Old h]) h := (St.old h).imOld (List.mem_cons_self ..) sl le
  refine newLineW S0 fun h1 l S1 => ⟨_, rfl, ?_⟩
  refine St.bd1 (cs := [.slice none 0 0]) S1 fun S2 => ifF' rfl ?_
  have S3 : St (DlW (top h1) [] :: LnW l [] :: Im 3 s (xs.flatMap cOp) :: [Old h]) (al h1 [Value.slice none 0 0].toArray T.waybillref16_Line) := DlW.inn (s := (none, 0, 0)) (S2.imNil 3 0).p1
  refine awake17S S3 fun h3 S4 => ⟨_, rfl, ?_⟩
  unfold waybilllaw17_LinePlays.j1
  exact ifF rfl ⟨xs.length + 1, lp_loop (L := Im 3 s (xs.flatMap cOp) :: [Old h]) ls wx (fun h' S' => ⟨rfl, S'.keptOld (List.mem_cons_of_mem _ (List.mem_cons_self ..))⟩) _ 0 [] h3 (by omega) (by omega) (by omega) (by simp) S4.p1⟩
end
end Go.Proofs.Ytechpnlbkkfplaa.Pr

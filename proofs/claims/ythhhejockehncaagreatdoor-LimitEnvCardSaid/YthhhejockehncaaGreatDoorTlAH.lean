/-
  Tree land, part AH: told answers, each with its proof; shorter words for the steps.
-/
import Derived.Test.YthhhejockehncaaGreatDoorTlAG
set_option linter.all false
namespace Go.TL
open Go

def oo (d : Nat) (q : O) : PO := ⟨some d, .op q, none⟩
def om (d x : Nat) : PO := ⟨some d, .op (.mv (.t x)), none⟩
def on_ (q : O) : PO := ⟨none, .op q, none⟩

section
variable {P : Program} {G : Globals} {ro : Option Nat}

theorem fs {s : List Cell} {v : V} {vs us : List V} (t : FlatL s vs us) (h : v.shut = true := by rfl) : FlatL s (v :: vs) (v :: us) := fl_cons (.same h) t
theorem fg {s : List Cell} {xs vs us : List V} (t : FlatL s vs us) (h : xs.all V.shut = true := by rfl) : FlatL s (.agg xs :: vs) (.agg xs :: us) := fl_cons (f_agg h) t
theorem gf {s : List Cell} {k : List T} {t : List V} {n : Nat} {res : List RS} {r : V} (v : V) (hf : FlatR s v r) (hv : retV t s res = some v := by kernel_rfl) (hn : Nat.ble n s.length = true := by rfl) : Run P G ro n (PostR res r) (.pc .ret :: k) t s := go_fin v hv hf hn
theorem gfe {s : List Cell} {t : List V} {n : Nat} {res : List RS} {r : V} (v : V) (hf : FlatR s v r) (hv : retV t s res = some v := by kernel_rfl) (hn : Nat.ble n s.length = true := by rfl) : Run P G ro n (PostR res r) [] t s := go_fine v hv hf hn

/-- A told answer: at which step; what is to be shown; that it is so. -/
structure Tl (P : Program) (G : Globals) where
  i : Nat
  o : Ob
  ok : ObOk P G o
def ansO : Ob → V × Option (List Cell)
  | .w _ _ v s => (v, some s)
  | .g _ _ v => (v, none)
theorem tl_all : ∀ (L : List (Tl P G)), ObsOk P G (L.map (·.o))
  | [] => trivial
  | x :: L => ⟨x.ok, tl_all L⟩
theorem obs_app : ∀ {a b : List Ob}, ObsOk P G a → ObsOk P G b → ObsOk P G (a ++ b)
  | [], _, _, h => h
  | _ :: _, _, ha, hb => ⟨ha.1, obs_app ha.2 hb⟩
theorem obs_rev : ∀ {a : List Ob}, ObsOk P G a → ObsOk P G a.reverse
  | [], _ => trivial
  | x :: a, h => by
    rw [List.reverse_cons]
    exact obs_app (obs_rev h.2) ⟨h.1, trivial⟩
def keepM (l : List (Nat × V)) : List (Nat × Nat) := l.map fun p => (p.1, 0)

theorem gm (hm : P.follows .mixedOrders = true) {n : Nat} {R : Post} {k : List T} {t : List V} {s : List Cell} (k' : List T) (nt : Nat) (t' : List (Nat × V)) (s' : List Cell) (f : Nat) (L : List (Tl P G)) (m : List (Nat × Nat))
    (hr : Run P G ro n R k' (mk nt t') s') (h : runW G f (L.map fun x => (x.i, ansO x.o)) m k t s = ((L.map (·.o)).reverse, k', mk nt t', s') := by kernel_rfl) (hn : Nat.ble n s'.length = true := by rfl) : Run P G ro n R k t s :=
  go_x hm f _ m h hn (obs_rev (tl_all L)) hr
theorem gx (hm : P.follows .mixedOrders = true) {n : Nat} {R : Post} {k : List T} {t : List V} {s : List Cell} (k' : List T) (nt : Nat) (t' : List (Nat × V)) (s' : List Cell) (f : Nat) (L : List (Tl P G))
    (hr : Run P G ro n R k' (mk nt t') s') (h : runW G f (L.map fun x => (x.i, ansO x.o)) (keepM t') k t s = ((L.map (·.o)).reverse, k', mk nt t', s') := by kernel_rfl) (hn : Nat.ble n s'.length = true := by rfl) : Run P G ro n R k t s :=
  go_x hm f _ _ h hn (obs_rev (tl_all L)) hr

def tw (i : Nat) {s s' : List Cell} {q : O} {v : V} (h : evO G [] s q = some (v, s')) : Tl P G := ⟨i, .w (.op q) s v s', ob_op h⟩
def tg (i : Nat) {s : List Cell} {q : O} {v : V} (h : evO G [] s q = some (v, s)) (hl : (K.op q).heavy = false := by rfl) : Tl P G := ⟨i, .g (.op q) s v, ob_gop hl h⟩
/-- A bool that is known. -/
def twb (i : Nat) (s : List Cell) (q : O) (E z : Bool) (hb : E = z) (h : evO G [] s q = some (.bool E, s) := by kernel_rfl) : Tl P G := ⟨i, .w (.op q) s (.bool z) s, ob_op (e_b hb h)⟩
def tgb (i : Nat) (s : List Cell) (q : O) (E z : Bool) (hb : E = z) (h : evO G [] s q = some (.bool E, s) := by kernel_rfl) (hl : (K.op q).heavy = false := by rfl) : Tl P G := ⟨i, .g (.op q) s (.bool z), ob_gop hl (e_b hb h)⟩

section calls
variable {f : FuncId} {as bs ar vs' : List V} {v : V} {s s' : List Cell}
def tc (i : Nat) (s : List Cell) (hp : Pure P (G.at 0) f vs' v) (hf : FlatL s as vs') (hs : scalB 4 v = true := by rfl) : Tl P G := ⟨i, .w (.call f (as.map .c)) s v s, ob_call hp (by rw [map_ev_c]; exact hf) hs⟩
def tgc (i : Nat) (s : List Cell) (hp : Pure P (G.at 0) f vs' v) (hf : FlatL s as vs') (hs : scalB 4 v = true := by rfl) : Tl P G := ⟨i, .g (.call f (as.map .c)) s v, ob_gcall hp (by rw [map_ev_c]; exact hf) hs⟩
def tcc (i : Nat) (s : List Cell) (hp : Pure P (G.at 0) f vs' v) (hf : FlatL [] as vs') : Tl P G := ⟨i, .w (.call f (as.map .c)) s v s, ob_callc hp (by rw [map_ev_c]; exact hf)⟩
def tgcc (i : Nat) (s : List Cell) (hp : Pure P (G.at 0) f vs' v) (hf : FlatL [] as vs') : Tl P G := ⟨i, .g (.call f (as.map .c)) s v, ob_gcallc hp (by rw [map_ev_c]; exact hf)⟩
def td (i : Nat) (s : List Cell) (as bs ar : List V) (hp : Pure P (G.at 0) f vs' v) (hf : FlatL s (as ++ ar ++ bs) vs') (hs : scalB 4 v = true := by rfl) : Tl P G := ⟨i, .w (.dyn (.c (.fn (.func f) as bs)) (ar.map .c)) s v s, ob_dyn hp (by rw [map_ev_c]; exact hf) hs⟩
def tgd (i : Nat) (s : List Cell) (as bs ar : List V) (hp : Pure P (G.at 0) f vs' v) (hf : FlatL s (as ++ ar ++ bs) vs') (hs : scalB 4 v = true := by rfl) : Tl P G := ⟨i, .g (.dyn (.c (.fn (.func f) as bs)) (ar.map .c)) s v, ob_gdyn hp (by rw [map_ev_c]; exact hf) hs⟩
def tdc (i : Nat) (s : List Cell) (as bs ar : List V) (hp : Pure P (G.at 0) f vs' v) (hf : FlatL [] (as ++ ar ++ bs) vs') : Tl P G := ⟨i, .w (.dyn (.c (.fn (.func f) as bs)) (ar.map .c)) s v s, ob_dync hp (by rw [map_ev_c]; exact hf)⟩
def tgdc (i : Nat) (s : List Cell) (as bs ar : List V) (hp : Pure P (G.at 0) f vs' v) (hf : FlatL [] (as ++ ar ++ bs) vs') : Tl P G := ⟨i, .g (.dyn (.c (.fn (.func f) as bs)) (ar.map .c)) s v, ob_gdync hp (by rw [map_ev_c]; exact hf)⟩
/-- A call that takes a row over. -/
def tp (i : Nat) (s : List Cell) (h : CallOk P (G.at 0) f as s (fun v' s2 => v' = v ∧ s2 = s')) : Tl P G := ⟨i, .w (.call f (as.map .c)) s v s', by
  show CallOk P (G.at 0) f ((as.map Opd.c).map (ev G [])) s _
  rw [map_ev_c]
  exact h⟩
end calls

section ops
variable {α : Type} {l ys l' : List α} {y y' : α} {n a b : Int} {c z o : Nat}
theorem E_len (s : List Cell) (l : List α) (f : α → V) : evO G [] s (.len .slice (.c (.sl (l.map f)))) = some (.int .i64 l.length, s) := e_len rfl
theorem E_lenv (s : List Cell) {xs : List V} {f : α → V} (h : xs = l.map f) : evO G [] s (.len .slice (.c (.sl xs))) = some (.int .i64 l.length, s) := e_len h
theorem E_ia (s : List Cell) (f : α → V) (k : IntKind) (h : getI l n = some y) : evO G [] s (.ia (f y).cells.length (.c (.sl (l.map f))) (.c (.int k n))) = some (.imm (f y).cells 0, s) := e_ia rfl h rfl
theorem E_iav (s : List Cell) {f : α → V} {xs : List V} (k : IntKind) (hx : xs = l.map f) (h : getI l n = some y) : evO G [] s (.ia (f y).cells.length (.c (.sl xs)) (.c (.int k n))) = some (.imm (f y).cells 0, s) := e_ia hx h rfl
theorem E_iao (s : List Cell) (f : α → V) (k : IntKind) (c : Nat) {m : Nat} (h : getI l n = some y) (hm : m = l.length) (hr : rowOf s c = some (z, l.map f) := by rfl) : evO G [] s (.ia z (.c (.osl c 0 m)) (.c (.int k n))) = some (.ref c n.toNat 0, s) := e_iaosl' hr h hm
theorem E_ix (s : List Cell) (k : IntKind) {l : List UInt8} {y : UInt8} (h : getI l n = some y) : evO G [] s (.ix (.c (.str l)) (.c (.int k n))) = some (.int .u8 y.toNat, s) := e_ix h
theorem E_quo (s : List Cell) (tk : TK) (kc : Bool) {k : IntKind} {q : Int} (h : quoI k a b = some q) : evO G [] s (.bin .quo tk kc (.c (.int k a)) (.c (.int k b))) = some (.int k q, s) := e_quo h
theorem E_rem (s : List Cell) (tk : TK) (kc : Bool) (k : IntKind) {q : Int} (h : remI a b = some q) : evO G [] s (.bin .rem tk kc (.c (.int k a)) (.c (.int k b))) = some (.int k q, s) := e_rem h
theorem E_shl (s : List Cell) (tk : TK) (kc : Bool) {k : IntKind} (k' : IntKind) {q : Int} (h : shlI k a b = some q) : evO G [] s (.bin .shl tk kc (.c (.int k a)) (.c (.int k' b))) = some (.int k q, s) := e_shl h
theorem E_shr (s : List Cell) (tk : TK) (kc : Bool) {k : IntKind} (k' : IntKind) {q : Int} (h : shrI k a b = some q) : evO G [] s (.bin .shr tk kc (.c (.int k a)) (.c (.int k' b))) = some (.int k q, s) := e_shr h
theorem E_cat (s : List Cell) (tk : TK) (kc : Bool) {x y z : List UInt8} (h : catS x y = some z) : evO G [] s (.bin .add tk kc (.c (.str x)) (.c (.str y))) = some (.str z, s) := e_cat h
end ops

end
end Go.TL

/- tone.Text under a name of its own (nat.Text's contract bears the same name). -/
import Derived.Test.YtpflnpekcdjheaaGreatDoorTone8
open Go.RowKit Go.Deep
namespace Go.Proofs
set_option linter.unusedVariables false
set_option linter.unusedSimpArgs false

theorem toneText_good (s : T4) (w : World) (hs : validB s.a s.b s.c s.d = true) (ht : Tab w) :
    Calls Tryz.prog 6 #[.agg #[.int .i64 s.a, .int .i64 s.b, .int .i64 s.c, .int .i64 s.d]] w fun e w' => e = .returned (.tuple #[.string ⟨(textT s).toArray⟩, .int .i64 0]) ∧ Below w.heap.size w w' := text_ok s w hs ht

end Go.Proofs

/- Seat B has no shelf of its own: nothing is laid here. -/
import Derived.Test.YtdolkacinfjhcaaNm
